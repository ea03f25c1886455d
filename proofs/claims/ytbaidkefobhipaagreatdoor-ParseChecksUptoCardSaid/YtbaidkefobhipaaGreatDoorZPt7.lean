/-
  Walks: the printer's statement. (Printed by gen_pt7.py.)
-/
import Derived.Test.YtbaidkefobhipaaGreatDoorZPt6
namespace Go.Proofs.YtbaidkefobhipaaGreatDoor
set_option maxHeartbeats 32000000
set_option maxRecDepth 100000
open Go.RowKit

theorem join_run (v:Value) (l:List Nm) (w:World) (h:NmRow w v l) (hl:(Lib.join l cm).length≤140737488355328) (hn:l.length≤140737488355328):
  Calls Tryz.prog 92 #[v,.string ⟨#[44,32]⟩] w fun e w'=>e=.returned (.string ⟨(Lib.join l cm).toArray⟩)∧Below w.heap.size w w':=by
 obtain ⟨x,c,rfl,h1,h2,h3,h4⟩:=h
 by_cases h0:l.length=0
 ·obtain rfl:=List.eq_nil_of_length_eq_zero h0
  refine (Tryz.strings_Join_none x c ⟨#[44,32]⟩ w).mono ?_
  rintro e w' ⟨rfl,rfl⟩;exact ⟨rfl,Below.refl _ _⟩
 ·obtain ⟨b,o,rfl,hp⟩:=h4 h0
  have hm:(l.map fun t=>(⟨t.toArray⟩:ByteArray)).map (·.data.toList)=l:=by
   rw [List.map_map];exact List.map_id' _
  have hj:=Tryz.strings_Join b o c (l.map fun t=>⟨t.toArray⟩) ⟨#[44,32]⟩ w (fun j y hy=>by
   rw [List.getElem?_map] at hy;obtain ⟨t,ht,rfl⟩:=Option.map_eq_some_iff.1 hy;obtain ⟨hj,rfl⟩:=List.getElem?_eq_some_iff.1 ht;exact hp j hj) (World.block_lt_of_cell? w _ (hp 0 (by omega))) (by rw [List.length_map]; exact hn) (by rw [List.length_map]; exact h1) (by rw [hm]; exact hl)
  rw [hm,List.length_map] at hj;exact hj
theorem join_count:∀(l:List Nm),l.length≤(Lib.join l cm).length+1:=by
 intro l
 cases l with
 | nil=>simp
 | cons a r=>
  rw [Lib.join_length];simp [cm,List.length_cons];omega
theorem pst_step (w0:World) (P N:Nat) (htab:Lib.TabIs Tryz.prog w0 "internal/strconv.uint64pow10" .u64 Lib.pow10Tab) (hx:PsOk w0 P N) (hkk:PkOk w0 P (N+1)):PsOk w0 P (N+1):=by
 intro h k d xn xk cn ck w l hN hsn hnr hkr hbw hp hln;have HX:=zH hx;have HKK:=zH hkk;have HTAB:=zH htab;have HN:=zH hN;have HSN:=zH hsn;have HNR:=zH hnr;have HKR:=zH hkr;have hkd2:=st_kind hsn;clear hx hkk htab hN hsn hnr hkr;obtain ⟨B,hB⟩:∃B,w0.heap.size=B:=⟨_,rfl⟩;have HB:=zH hB;rw [hB] at hbw hp ⊢
 have hsz:B≤w.heap.size:=by rw [← hB]; exact (show Below w0.heap.size w0 w by rw [hB]; exact hbw).size
 have HBND:=zH hln
 have hba:=(Below.refl w.heap.size w).alloc (Nat.le_refl _) (.cells (ndV h (.slice xn h.names.length cn) (.slice xk k.len ck)) 31)
 have HKB:=zH (Blk.new w 31 (ndV h (.slice xn h.names.length cn) (.slice xk k.len ck)))
 have HS:=zH ((PrS.mk hp hbw (Fr.refl B PT w) hsz).below hba)
 clear hbw hp hln hB hsz hba;obtain ⟨TT,hTT⟩:∃TT,stOne h (ntT k) d=TT:=⟨_,rfl⟩;have HTT:=zH hTT;rw [hTT] at HBND ⊢;clear hTT;obtain ⟨kd,tx,nu,nm,ps⟩:=h;simp only at HKB HS HTT ⊢;unfold ndV at HKB HS ⊢;go_enter Tryz.func46,Tryz.ntmps46;go_upto_region 1 with fail
 generalize w.alloc (.cells #[.int .i64 kd,.string ⟨tx.toArray⟩,.int .i64 nu,.slice xn nm.length cn,.slice xk k.len ck,.int .i64 ps] 31)=wz at*;generalize hKBe:w.heap.size=KB at*;clear hKBe;have y0:wz.cell? ⟨KB,0,none⟩=some (.int .i64 kd):=HKB.out.cell 0;have y1:wz.cell? ⟨KB,1,none⟩=some (.string ⟨tx.toArray⟩):=HKB.out.cell 1;have y2:wz.cell? ⟨KB,2,none⟩=some (.int .i64 nu):=HKB.out.cell 2
 have y3:wz.cell? ⟨KB,3,none⟩=some (.slice xn nm.length cn):=HKB.out.cell 3
 have y4:wz.cell? ⟨KB,4,none⟩=some (.slice xk k.len ck):=HKB.out.cell 4
 have y5:wz.cell? ⟨KB,5,none⟩=some (.int .i64 ps):=HKB.out.cell 5
 simp only at hkd2 HNR HSN;rcases (by omega:kd=20∨kd=21∨kd=22∨kd=23∨kd=24∨kd=25∨kd=26∨kd=27∨kd=28∨kd=29) with hkd | hkd | hkd | hkd | hkd | hkd | hkd | hkd | hkd | hkd
 ·-- 20
  obtain rfl:kd=20:=hkd
  clear hkd2;obtain ⟨h0,k0,rfl,hen0⟩:=st_ex1 HSN.out (by simp)
  have hT:TT=[108,101,116,32]++asgT tx (exOne h0 (exT k0)):=by rw [← HTT.out]; rfl
  rw [hT] at HBND;have HRT:=zH hT;clear hT HTT;have hbn:=(Below.refl wz.heap.size wz).alloc (Nat.le_refl _) (.cells #[.string ⟨#[108,101,116,32]⟩] 9)
  have HPU:=zH (put_any B P l wz.heap.size [[108,101,116,32]] (wz.alloc (.cells #[.string ⟨#[108,101,116,32]⟩] 9)) (HS.out.prt.below hbn) (Blk.new wz 9 #[.string ⟨#[108,101,116,32]⟩]) (by simp) (by have h1:=HBND.out; unfold Mw at h1; first | (simp only [List.length_append,List.length_cons,List.length_nil] at h1  ⊢; omega) | (simp only [List.length_append,List.flatten_cons,List.flatten_nil,List.append_nil,List.length_cons,List.length_nil] at h1  ⊢; omega)) (by have h1:=HS.out.size; simp; omega))
  have e1:([[108,101,116,32]]:List Nm).length=1:=rfl
  rw [e1] at HPU;have HBN:=zH hbn;clear e1 hbn;go_wp2_with fail;refine HPU.out.mono ?_;rintro e w1 ⟨rfl,hp1,hf1⟩;have HS2:=zH (HS.out.next HBN.out hp1 hf1);have HKB2:=zH (hf1.blk (HKB.out.alloc _) pt_syn);clear HS HKB y0 y1 y2 y3 y4 y5 hp1 hf1 HPU HBN;have HS:=HS2;have HKB:=HKB2;clear HS2 HKB2;have y0:w1.cell? ⟨KB,0,none⟩=some (.int .i64 20):=HKB.out.cell 0
  have y1:w1.cell? ⟨KB,1,none⟩=some (.string ⟨tx.toArray⟩):=HKB.out.cell 1
  have y2:w1.cell? ⟨KB,2,none⟩=some (.int .i64 nu):=HKB.out.cell 2
  have y3:w1.cell? ⟨KB,3,none⟩=some (.slice xn nm.length cn):=HKB.out.cell 3
  have y4:w1.cell? ⟨KB,4,none⟩=some (.slice xk (Fo.cons h0 k0 .nil).len ck):=HKB.out.cell 4
  have y5:w1.cell? ⟨KB,5,none⟩=some (.int .i64 ps):=HKB.out.cell 5
  have HC:=zH (passign_any w0 P HTAB.out ⟨20,tx,nu,nm,ps⟩ h0 k0 .nil xn xk cn _ ck w1 (l++([[108,101,116,32]]:List Nm).flatten) hen0 HKR.out (by rw [HB.out]; exact HS.out.bel) (by rw [HB.out]; exact HS.out.prt) (by have h1:=HBND.out; unfold Mw at h1 ⊢; first | (simp only [List.length_append,List.length_cons,List.length_nil] at h1  ⊢; omega) | (simp only [List.length_append,List.flatten_cons,List.flatten_nil,List.append_nil,List.length_cons,List.length_nil] at h1  ⊢; omega)))
  rw [HB.out] at HC;unfold ndV at HC;simp only at HC;clear hen0;go_wp2_with fail;refine HC.out.mono ?_;rintro e w3 ⟨rfl,hp1,hf1⟩;have HS2:=zH (HS.out.next (Below.refl _ _) hp1 hf1);clear HS hp1 hf1 HC HKB y0 y1 y2 y3 y4 y5;have HS:=HS2;clear HS2;go_wp2_with fail;first
   | refine bodyPost_ret (results_none rfl _ _ _) rfl ⟨rfl,_,?_,HS.out.prt,HS.out.fr⟩
   | refine bodyPost_end (results_none rfl _ _ _) rfl ⟨rfl,_,?_,HS.out.prt,HS.out.fr⟩
  have h1:=Cut.refl ((l++([[108,101,116,32]]:List Nm).flatten)++(asgT tx (exOne h0 (exT k0))))
  simpa [List.append_assoc,HRT.out] using h1
 ·-- 21
  obtain rfl:kd=21:=hkd
  clear hkd2;obtain ⟨h0,k0,rfl,hen0⟩:=st_ex1 HSN.out (by simp)
  have hT:TT=asgT tx (exOne h0 (exT k0)):=by rw [← HTT.out]; rfl
  rw [hT] at HBND;have HRT:=zH hT;clear hT HTT;have HC:=zH (passign_any w0 P HTAB.out ⟨21,tx,nu,nm,ps⟩ h0 k0 .nil xn xk cn _ ck wz l hen0 HKR.out (by rw [HB.out]; exact HS.out.bel) (by rw [HB.out]; exact HS.out.prt) (HBND.out))
  rw [HB.out] at HC;unfold ndV at HC;simp only at HC;clear hen0;go_wp2_with fail;refine HC.out.mono ?_;rintro e w3 ⟨rfl,hp1,hf1⟩;have HS2:=zH (HS.out.next (Below.refl _ _) hp1 hf1);clear HS hp1 hf1 HC HKB y0 y1 y2 y3 y4 y5;have HS:=HS2;clear HS2;go_wp2_with fail;first
   | refine bodyPost_ret (results_none rfl _ _ _) rfl ⟨rfl,_,?_,HS.out.prt,HS.out.fr⟩
   | refine bodyPost_end (results_none rfl _ _ _) rfl ⟨rfl,_,?_,HS.out.prt,HS.out.fr⟩
  have h1:=Cut.refl (l++(asgT tx (exOne h0 (exT k0))))
  simpa [List.append_assoc,HRT.out] using h1
 ·-- 22
  obtain rfl:kd=22:=hkd
  clear hkd2;obtain ⟨h0,k0,h1,k1,R,rfl,hen0,hb25,hrt1,hR⟩:=st_br HSN.out rfl;have hT:TT=ifT (exOne h0 (exT k0)) (blkT k1 d) (if R.len=1 then [32,101,108,115,101,32]++st0 (ntT R) 0 d else []):=by
   rw [← HTT.out,← stOne_blk hb25];have e1:((ntT (.cons h0 k0 (.cons h1 k1 R))).length=3)=(R.len=1):=by rw [ntT_len]; simp only [Fo.len,eq_iff_iff]; omega
   show [105,102,32]++_++[32]++_++(if (ntT (.cons h0 k0 (.cons h1 k1 R))).length=3 then _ else _)=_
   simp only [e1];rfl
  rw [hT] at HBND;have HRT:=zH hT;have HC:=zH (pbranch_any w0 P N HTAB.out HX.out (fun h k d xn xk cn ck w l hk=>HKK.out h k d xn xk cn ck w l (Nat.lt_succ_of_lt hk)) ⟨22,tx,nu,nm,ps⟩ h0 h1 k0 k1 R d xn xk cn _ ck wz l (by have h1:=HN.out; simp only [Fo.size] at h1; omega) hen0 hrt1 hR HKR.out (by rw [HB.out]; exact HS.out.bel) (by rw [HB.out]; exact HS.out.prt) HBND.out)
  rw [HB.out] at HC;unfold ndV at HC;simp only at HC;clear hen0 hrt1 hb25 hR hT HTT;go_wp2_with fail;refine HC.out.mono ?_;rintro e w3 ⟨rfl,a2,hc1,hp1,hf1⟩;have HS2:=zH (HS.out.next (Below.refl _ _) hp1 hf1);have HC2:Hid (Cut a2 (l++(ifT (exOne h0 (exT k0)) (blkT k1 d) (if R.len=1 then [32,101,108,115,101,32]++st0 (ntT R) 0 d else [])))):=hc1
  clear HS hp1 hf1 hc1 HC HKB y0 y1 y2 y3 y4 y5;have HS:=HS2;clear HS2;go_wp2_with fail;first
   | refine bodyPost_ret (results_none rfl _ _ _) rfl ⟨rfl,_,?_,HS.out.prt,HS.out.fr⟩
   | refine bodyPost_end (results_none rfl _ _ _) rfl ⟨rfl,_,?_,HS.out.prt,HS.out.fr⟩
  rw [HRT.out];exact HC2.out
 ·-- 23
  obtain rfl:kd=23:=hkd
  clear hkd2;obtain ⟨h0,k0,h1,k1,rfl,hen0,hb25,hrt1⟩:=st_wh HSN.out rfl;obtain ⟨b0,off,xn0,cn0,xk0,ck0,rfl,hb0,hz0,hk0⟩:=HKR.out.node0;have hcs:=row_sh HKR.out;have HB0:=zH hb0;have HZ0:=zH hz0;have HK0:=zH hk0;clear hb0 hz0 hk0;have ht1:=FRow.tail (A:=.cons h0 k0 .nil) HKR.out;simp only [Fo.len,Nat.zero_add,Nat.one_mul] at ht1;obtain ⟨_,_,xn1,cn1,xk1,ck1,he1,-,hz1,hk1⟩:=ht1.node0
  injection he1 with he1
  injection he1 with he1 he2
  subst he1 he2;have HZ1:=zH hz1;have HK1:=zH hk1;clear hz1 hk1;clear ht1;simp only [Fo.len,Nat.zero_add,Nat.reduceAdd] at y4 HKB hcs;have HE0:=zH (fun w l g1 g2 g3=>px_all w0 P HTAB.out (k0.size+1) h0 k0 xn0 xk0 cn0 ck0 w l (Nat.lt_succ_self _) hen0 HK0.out g1 g2 g3)
  rw [HB.out] at HE0;unfold ndV at HE0;obtain ⟨E0,hE0⟩:∃E,exOne h0 (exT k0)=E:=⟨_,rfl⟩;rw [hE0] at HE0;have HQ0:=zH hE0;clear hE0 hen0;have HE1:=zH (fun w l g1 g2 g3=>HKK.out h1 k1 d xn1 xk1 cn1 ck1 w l (by have h1:=HN.out; simp only [Fo.size] at h1; omega) hrt1 HK1.out g1 g2 g3)
  rw [HB.out] at HE1;unfold ndV at HE1;obtain ⟨E1,hE1⟩:∃E,blkT k1 d=E:=⟨_,rfl⟩;rw [hE1] at HE1;have HQ1:Hid (stOne h1 (ntT k1) d=E1):=by show _=_; rw [stOne_blk hb25]; exact hE1
  clear hE1 hrt1 hb25;have hT:TT=[119,104,105,108,101,32]++E0++[32]++E1:=by rw [← HTT.out,← HQ0.out,← HQ1.out]; rfl
  rw [hT] at HBND;have HRT:=zH hT;clear hT HTT;have hbn:=(Below.refl wz.heap.size wz).alloc (Nat.le_refl _) (.cells #[.string ⟨#[119,104,105,108,101,32]⟩] 9)
  have HPU:=zH (put_any B P l wz.heap.size [[119,104,105,108,101,32]] (wz.alloc (.cells #[.string ⟨#[119,104,105,108,101,32]⟩] 9)) (HS.out.prt.below hbn) (Blk.new wz 9 #[.string ⟨#[119,104,105,108,101,32]⟩]) (by simp) (by have h1:=HBND.out; unfold Mw at h1; first | (simp only [List.length_append,List.length_cons,List.length_nil] at h1  ⊢; omega) | (simp only [List.length_append,List.flatten_cons,List.flatten_nil,List.append_nil,List.length_cons,List.length_nil] at h1  ⊢; omega)) (by have h1:=HS.out.size; simp; omega))
  have e1:([[119,104,105,108,101,32]]:List Nm).length=1:=rfl
  rw [e1] at HPU;have HBN:=zH hbn;clear e1 hbn;go_wp2_with fail;refine HPU.out.mono ?_;rintro e w1 ⟨rfl,hp1,hf1⟩;have HS2:=zH (HS.out.next HBN.out hp1 hf1);have HKB2:=zH (hf1.blk (HKB.out.alloc _) pt_syn);clear HS HKB y0 y1 y2 y3 y4 y5 hp1 hf1 HPU HBN;have HS:=HS2;have HKB:=HKB2;clear HS2 HKB2;have y0:w1.cell? ⟨KB,0,none⟩=some (.int .i64 23):=HKB.out.cell 0
  have y1:w1.cell? ⟨KB,1,none⟩=some (.string ⟨tx.toArray⟩):=HKB.out.cell 1
  have y2:w1.cell? ⟨KB,2,none⟩=some (.int .i64 nu):=HKB.out.cell 2
  have y3:w1.cell? ⟨KB,3,none⟩=some (.slice xn nm.length cn):=HKB.out.cell 3
  have y4:w1.cell? ⟨KB,4,none⟩=some (.slice (some ⟨b0,off,none⟩) 2 ck):=HKB.out.cell 4
  have y5:w1.cell? ⟨KB,5,none⟩=some (.int .i64 ps):=HKB.out.cell 5
  obtain ⟨z0,z1,z2,z3,z4,z5⟩:=HZ0.out
  have trz:∀o u,w0.cell? ⟨b0,o,none⟩=some u→w1.cell? ⟨b0,o,none⟩=some u:=fun o u h=>(HS.out.bel.cell (p:=⟨b0,o,none⟩) (by rw [← HB.out]; exact HB0.out)).trans h
  replace z0:=trz _ _ z0
  replace z1:=trz _ _ z1
  replace z2:=trz _ _ z2
  replace z3:=trz _ _ z3
  replace z4:=trz _ _ z4
  replace z5:=trz _ _ z5
  clear trz;have HC:=zH (HE0.out w1 (l++([[119,104,105,108,101,32]]:List Nm).flatten) HS.out.bel HS.out.prt (by have h1:=HBND.out; unfold Mw at h1 ⊢; first | (simp only [List.length_append,List.length_cons,List.length_nil] at h1  ⊢; omega) | (simp only [List.length_append,List.flatten_cons,List.flatten_nil,List.append_nil,List.length_cons,List.length_nil] at h1  ⊢; omega)))
  go_wp2_with fail;refine HC.out.mono ?_;rintro e w2 ⟨rfl,hp1,hf1⟩;have HS2:=zH (HS.out.next (Below.refl _ _) hp1 hf1);have HKB2:=zH (hf1.blk HKB.out pt_syn);clear HS HKB y0 y1 y2 y3 y4 y5 hp1 hf1 HC z0 z1 z2 z3 z4 z5;have HS:=HS2;have HKB:=HKB2;clear HS2 HKB2;have y0:w2.cell? ⟨KB,0,none⟩=some (.int .i64 23):=HKB.out.cell 0;have y1:w2.cell? ⟨KB,1,none⟩=some (.string ⟨tx.toArray⟩):=HKB.out.cell 1
  have y2:w2.cell? ⟨KB,2,none⟩=some (.int .i64 nu):=HKB.out.cell 2
  have y3:w2.cell? ⟨KB,3,none⟩=some (.slice xn nm.length cn):=HKB.out.cell 3
  have y4:w2.cell? ⟨KB,4,none⟩=some (.slice (some ⟨b0,off,none⟩) 2 ck):=HKB.out.cell 4
  have y5:w2.cell? ⟨KB,5,none⟩=some (.int .i64 ps):=HKB.out.cell 5
  have hbn:=(Below.refl w2.heap.size w2).alloc (Nat.le_refl _) (.cells #[.string ⟨#[32]⟩] 9)
  have HPU:=zH (put_any B P ((l++([[119,104,105,108,101,32]]:List Nm).flatten)++E0) w2.heap.size [[32]] (w2.alloc (.cells #[.string ⟨#[32]⟩] 9)) (HS.out.prt.below hbn) (Blk.new w2 9 #[.string ⟨#[32]⟩]) (by simp) (by have h1:=HBND.out; unfold Mw at h1; first | (simp only [List.length_append,List.length_cons,List.length_nil] at h1  ⊢; omega) | (simp only [List.length_append,List.flatten_cons,List.flatten_nil,List.append_nil,List.length_cons,List.length_nil] at h1  ⊢; omega)) (by have h1:=HS.out.size; simp; omega))
  have e1:([[32]]:List Nm).length=1:=rfl
  rw [e1] at HPU;have HBN:=zH hbn;clear e1 hbn;go_wp2_with fail;refine HPU.out.mono ?_;rintro e w3 ⟨rfl,hp1,hf1⟩;have HS2:=zH (HS.out.next HBN.out hp1 hf1);have HKB2:=zH (hf1.blk (HKB.out.alloc _) pt_syn);clear HS HKB y0 y1 y2 y3 y4 y5 hp1 hf1 HPU HBN;have HS:=HS2;have HKB:=HKB2;clear HS2 HKB2;have y0:w3.cell? ⟨KB,0,none⟩=some (.int .i64 23):=HKB.out.cell 0
  have y1:w3.cell? ⟨KB,1,none⟩=some (.string ⟨tx.toArray⟩):=HKB.out.cell 1
  have y2:w3.cell? ⟨KB,2,none⟩=some (.int .i64 nu):=HKB.out.cell 2
  have y3:w3.cell? ⟨KB,3,none⟩=some (.slice xn nm.length cn):=HKB.out.cell 3
  have y4:w3.cell? ⟨KB,4,none⟩=some (.slice (some ⟨b0,off,none⟩) 2 ck):=HKB.out.cell 4
  have y5:w3.cell? ⟨KB,5,none⟩=some (.int .i64 ps):=HKB.out.cell 5
  obtain ⟨z0,z1,z2,z3,z4,z5⟩:=HZ1.out
  have trz:∀o u,w0.cell? ⟨b0,o,none⟩=some u→w3.cell? ⟨b0,o,none⟩=some u:=fun o u h=>(HS.out.bel.cell (p:=⟨b0,o,none⟩) (by rw [← HB.out]; exact HB0.out)).trans h
  replace z0:=trz _ _ z0
  replace z1:=trz _ _ z1
  replace z2:=trz _ _ z2
  replace z3:=trz _ _ z3
  replace z4:=trz _ _ z4
  replace z5:=trz _ _ z5
  clear trz
  have HC:=zH (HE1.out w3 (((l++([[119,104,105,108,101,32]]:List Nm).flatten)++E0)++([[32]]:List Nm).flatten) HS.out.bel HS.out.prt (by have h1:=HBND.out; unfold Mw at h1 ⊢; first | (simp only [List.length_append,List.length_cons,List.length_nil] at h1  ⊢; omega) | (simp only [List.length_append,List.flatten_cons,List.flatten_nil,List.append_nil,List.length_cons,List.length_nil] at h1  ⊢; omega)))
  go_wp2_with fail;refine HC.out.mono ?_;rintro e w4 ⟨rfl,a9,hc1,hp1,hf1⟩;have HS2:=zH (HS.out.next (Below.refl _ _) hp1 hf1);have HC9:Hid (Cut a9 ((((l++([[119,104,105,108,101,32]]:List Nm).flatten)++E0)++([[32]]:List Nm).flatten)++E1)):=hc1;clear HS hp1 hf1 hc1 HC z0 z1 z2 z3 z4 z5 HKB y0 y1 y2 y3 y4 y5;have HS:=HS2;clear HS2;go_wp2_with fail;first
   | refine bodyPost_ret (results_none rfl _ _ _) rfl ⟨rfl,_,?_,HS.out.prt,HS.out.fr⟩
   | refine bodyPost_end (results_none rfl _ _ _) rfl ⟨rfl,_,?_,HS.out.prt,HS.out.fr⟩
  have h1:=HC9.out
  simpa [List.append_assoc,HRT.out] using h1
 ·-- 24
  obtain rfl:kd=24:=hkd
  clear hkd2;obtain ⟨h0,k0,h1,k1,h2,k2,rfl,hen0,hen1,hb25,hrt2⟩:=st_fo HSN.out rfl;obtain ⟨b0,off,xn0,cn0,xk0,ck0,rfl,hb0,hz0,hk0⟩:=HKR.out.node0;have hcs:=row_sh HKR.out;have HB0:=zH hb0;have HZ0:=zH hz0;have HK0:=zH hk0;clear hb0 hz0 hk0;have ht1:=FRow.tail (A:=.cons h0 k0 .nil) HKR.out;simp only [Fo.len,Nat.zero_add,Nat.one_mul] at ht1;obtain ⟨_,_,xn1,cn1,xk1,ck1,he1,-,hz1,hk1⟩:=ht1.node0
  injection he1 with he1
  injection he1 with he1 he2
  subst he1 he2;have HZ1:=zH hz1;have HK1:=zH hk1;clear hz1 hk1;have ht2:=FRow.tail (A:=.cons h1 k1 .nil) ht1;simp only [Fo.len,Nat.zero_add,Nat.one_mul] at ht2;obtain ⟨_,_,xn2,cn2,xk2,ck2,he3,-,hz2,hk2⟩:=ht2.node0;injection he3 with he3
  injection he3 with he3 he4
  subst he3 he4;have HZ2:=zH hz2;have HK2:=zH hk2;clear hz2 hk2 ht2;clear ht1;simp only [Fo.len,Nat.zero_add,Nat.reduceAdd] at y4 HKB hcs;have HE0:=zH (fun w l g1 g2 g3=>px_all w0 P HTAB.out (k0.size+1) h0 k0 xn0 xk0 cn0 ck0 w l (Nat.lt_succ_self _) hen0 HK0.out g1 g2 g3)
  rw [HB.out] at HE0;unfold ndV at HE0;obtain ⟨E0,hE0⟩:∃E,exOne h0 (exT k0)=E:=⟨_,rfl⟩;rw [hE0] at HE0;have HQ0:=zH hE0;clear hE0 hen0;have HE1:=zH (fun w l g1 g2 g3=>px_all w0 P HTAB.out (k1.size+1) h1 k1 xn1 xk1 cn1 ck1 w l (Nat.lt_succ_self _) hen1 HK1.out g1 g2 g3)
  rw [HB.out] at HE1;unfold ndV at HE1;obtain ⟨E1,hE1⟩:∃E,exOne h1 (exT k1)=E:=⟨_,rfl⟩;rw [hE1] at HE1;have HQ1:=zH hE1;clear hE1 hen1;have HE2:=zH (fun w l g1 g2 g3=>HKK.out h2 k2 d xn2 xk2 cn2 ck2 w l (by have h1:=HN.out; simp only [Fo.size] at h1; omega) hrt2 HK2.out g1 g2 g3)
  rw [HB.out] at HE2;unfold ndV at HE2;obtain ⟨E2,hE2⟩:∃E,blkT k2 d=E:=⟨_,rfl⟩;rw [hE2] at HE2;have HQ2:Hid (stOne h2 (ntT k2) d=E2):=by show _=_; rw [stOne_blk hb25]; exact hE2
  clear hE2 hrt2 hb25;have hT:TT=([102,111,114,32]++tx++[32,105,110,32])++E0++[32,46,46,32]++E1++[32]++E2:=by rw [← HTT.out,← HQ0.out,← HQ1.out,← HQ2.out]; rfl
  rw [hT] at HBND;have HRT:=zH hT;clear hT HTT;have hbn:=(Below.refl wz.heap.size wz).alloc (Nat.le_refl _) (.cells #[.string ⟨#[102,111,114,32]⟩,.string ⟨tx.toArray⟩,.string ⟨#[32,105,110,32]⟩] 9)
  have HPU:=zH (put_any B P l wz.heap.size [[102,111,114,32],tx,[32,105,110,32]] (wz.alloc (.cells #[.string ⟨#[102,111,114,32]⟩,.string ⟨tx.toArray⟩,.string ⟨#[32,105,110,32]⟩] 9)) (HS.out.prt.below hbn) (Blk.new wz 9 #[.string ⟨#[102,111,114,32]⟩,.string ⟨tx.toArray⟩,.string ⟨#[32,105,110,32]⟩]) (by simp) (by have h1:=HBND.out; unfold Mw at h1; first | (simp only [List.length_append,List.length_cons,List.length_nil] at h1  ⊢; omega) | (simp only [List.length_append,List.flatten_cons,List.flatten_nil,List.append_nil,List.length_cons,List.length_nil] at h1  ⊢; omega)) (by have h1:=HS.out.size; simp; omega))
  have e1:([[102,111,114,32],tx,[32,105,110,32]]:List Nm).length=3:=rfl
  rw [e1] at HPU;have HBN:=zH hbn;clear e1 hbn;go_wp2_with fail;refine HPU.out.mono ?_;rintro e w1 ⟨rfl,hp1,hf1⟩;have HS2:=zH (HS.out.next HBN.out hp1 hf1);have HKB2:=zH (hf1.blk (HKB.out.alloc _) pt_syn);clear HS HKB y0 y1 y2 y3 y4 y5 hp1 hf1 HPU HBN;have HS:=HS2;have HKB:=HKB2;clear HS2 HKB2;have y0:w1.cell? ⟨KB,0,none⟩=some (.int .i64 24):=HKB.out.cell 0
  have y1:w1.cell? ⟨KB,1,none⟩=some (.string ⟨tx.toArray⟩):=HKB.out.cell 1
  have y2:w1.cell? ⟨KB,2,none⟩=some (.int .i64 nu):=HKB.out.cell 2
  have y3:w1.cell? ⟨KB,3,none⟩=some (.slice xn nm.length cn):=HKB.out.cell 3
  have y4:w1.cell? ⟨KB,4,none⟩=some (.slice (some ⟨b0,off,none⟩) 3 ck):=HKB.out.cell 4
  have y5:w1.cell? ⟨KB,5,none⟩=some (.int .i64 ps):=HKB.out.cell 5
  obtain ⟨z0,z1,z2,z3,z4,z5⟩:=HZ0.out
  have trz:∀o u,w0.cell? ⟨b0,o,none⟩=some u→w1.cell? ⟨b0,o,none⟩=some u:=fun o u h=>(HS.out.bel.cell (p:=⟨b0,o,none⟩) (by rw [← HB.out]; exact HB0.out)).trans h
  replace z0:=trz _ _ z0
  replace z1:=trz _ _ z1
  replace z2:=trz _ _ z2
  replace z3:=trz _ _ z3
  replace z4:=trz _ _ z4
  replace z5:=trz _ _ z5
  clear trz;have HC:=zH (HE0.out w1 (l++([[102,111,114,32],tx,[32,105,110,32]]:List Nm).flatten) HS.out.bel HS.out.prt (by have h1:=HBND.out; unfold Mw at h1 ⊢; first | (simp only [List.length_append,List.length_cons,List.length_nil] at h1  ⊢; omega) | (simp only [List.length_append,List.flatten_cons,List.flatten_nil,List.append_nil,List.length_cons,List.length_nil] at h1  ⊢; omega)))
  go_wp2_with fail;refine HC.out.mono ?_;rintro e w2 ⟨rfl,hp1,hf1⟩;have HS2:=zH (HS.out.next (Below.refl _ _) hp1 hf1);have HKB2:=zH (hf1.blk HKB.out pt_syn);clear HS HKB y0 y1 y2 y3 y4 y5 hp1 hf1 HC z0 z1 z2 z3 z4 z5;have HS:=HS2;have HKB:=HKB2;clear HS2 HKB2;have y0:w2.cell? ⟨KB,0,none⟩=some (.int .i64 24):=HKB.out.cell 0;have y1:w2.cell? ⟨KB,1,none⟩=some (.string ⟨tx.toArray⟩):=HKB.out.cell 1
  have y2:w2.cell? ⟨KB,2,none⟩=some (.int .i64 nu):=HKB.out.cell 2
  have y3:w2.cell? ⟨KB,3,none⟩=some (.slice xn nm.length cn):=HKB.out.cell 3
  have y4:w2.cell? ⟨KB,4,none⟩=some (.slice (some ⟨b0,off,none⟩) 3 ck):=HKB.out.cell 4
  have y5:w2.cell? ⟨KB,5,none⟩=some (.int .i64 ps):=HKB.out.cell 5
  have hbn:=(Below.refl w2.heap.size w2).alloc (Nat.le_refl _) (.cells #[.string ⟨#[32,46,46,32]⟩] 9)
  have HPU:=zH (put_any B P ((l++([[102,111,114,32],tx,[32,105,110,32]]:List Nm).flatten)++E0) w2.heap.size [[32,46,46,32]] (w2.alloc (.cells #[.string ⟨#[32,46,46,32]⟩] 9)) (HS.out.prt.below hbn) (Blk.new w2 9 #[.string ⟨#[32,46,46,32]⟩]) (by simp) (by have h1:=HBND.out; unfold Mw at h1; first | (simp only [List.length_append,List.length_cons,List.length_nil] at h1  ⊢; omega) | (simp only [List.length_append,List.flatten_cons,List.flatten_nil,List.append_nil,List.length_cons,List.length_nil] at h1  ⊢; omega)) (by have h1:=HS.out.size; simp; omega))
  have e1:([[32,46,46,32]]:List Nm).length=1:=rfl
  rw [e1] at HPU;have HBN:=zH hbn;clear e1 hbn;go_wp2_with fail;refine HPU.out.mono ?_;rintro e w3 ⟨rfl,hp1,hf1⟩;have HS2:=zH (HS.out.next HBN.out hp1 hf1);have HKB2:=zH (hf1.blk (HKB.out.alloc _) pt_syn);clear HS HKB y0 y1 y2 y3 y4 y5 hp1 hf1 HPU HBN;have HS:=HS2;have HKB:=HKB2;clear HS2 HKB2;have y0:w3.cell? ⟨KB,0,none⟩=some (.int .i64 24):=HKB.out.cell 0
  have y1:w3.cell? ⟨KB,1,none⟩=some (.string ⟨tx.toArray⟩):=HKB.out.cell 1
  have y2:w3.cell? ⟨KB,2,none⟩=some (.int .i64 nu):=HKB.out.cell 2
  have y3:w3.cell? ⟨KB,3,none⟩=some (.slice xn nm.length cn):=HKB.out.cell 3
  have y4:w3.cell? ⟨KB,4,none⟩=some (.slice (some ⟨b0,off,none⟩) 3 ck):=HKB.out.cell 4
  have y5:w3.cell? ⟨KB,5,none⟩=some (.int .i64 ps):=HKB.out.cell 5
  obtain ⟨z0,z1,z2,z3,z4,z5⟩:=HZ1.out
  have trz:∀o u,w0.cell? ⟨b0,o,none⟩=some u→w3.cell? ⟨b0,o,none⟩=some u:=fun o u h=>(HS.out.bel.cell (p:=⟨b0,o,none⟩) (by rw [← HB.out]; exact HB0.out)).trans h
  replace z0:=trz _ _ z0
  replace z1:=trz _ _ z1
  replace z2:=trz _ _ z2
  replace z3:=trz _ _ z3
  replace z4:=trz _ _ z4
  replace z5:=trz _ _ z5
  clear trz
  have HC:=zH (HE1.out w3 (((l++([[102,111,114,32],tx,[32,105,110,32]]:List Nm).flatten)++E0)++([[32,46,46,32]]:List Nm).flatten) HS.out.bel HS.out.prt (by have h1:=HBND.out; unfold Mw at h1 ⊢; first | (simp only [List.length_append,List.length_cons,List.length_nil] at h1  ⊢; omega) | (simp only [List.length_append,List.flatten_cons,List.flatten_nil,List.append_nil,List.length_cons,List.length_nil] at h1  ⊢; omega)))
  go_wp2_with fail;refine HC.out.mono ?_;rintro e w4 ⟨rfl,hp1,hf1⟩;have HS2:=zH (HS.out.next (Below.refl _ _) hp1 hf1);have HKB2:=zH (hf1.blk HKB.out pt_syn);clear HS HKB y0 y1 y2 y3 y4 y5 hp1 hf1 HC z0 z1 z2 z3 z4 z5;have HS:=HS2;have HKB:=HKB2;clear HS2 HKB2;have y0:w4.cell? ⟨KB,0,none⟩=some (.int .i64 24):=HKB.out.cell 0;have y1:w4.cell? ⟨KB,1,none⟩=some (.string ⟨tx.toArray⟩):=HKB.out.cell 1
  have y2:w4.cell? ⟨KB,2,none⟩=some (.int .i64 nu):=HKB.out.cell 2
  have y3:w4.cell? ⟨KB,3,none⟩=some (.slice xn nm.length cn):=HKB.out.cell 3
  have y4:w4.cell? ⟨KB,4,none⟩=some (.slice (some ⟨b0,off,none⟩) 3 ck):=HKB.out.cell 4
  have y5:w4.cell? ⟨KB,5,none⟩=some (.int .i64 ps):=HKB.out.cell 5
  have hbn:=(Below.refl w4.heap.size w4).alloc (Nat.le_refl _) (.cells #[.string ⟨#[32]⟩] 9)
  have HPU:=zH (put_any B P ((((l++([[102,111,114,32],tx,[32,105,110,32]]:List Nm).flatten)++E0)++([[32,46,46,32]]:List Nm).flatten)++E1) w4.heap.size [[32]] (w4.alloc (.cells #[.string ⟨#[32]⟩] 9)) (HS.out.prt.below hbn) (Blk.new w4 9 #[.string ⟨#[32]⟩]) (by simp) (by have h1:=HBND.out; unfold Mw at h1; first | (simp only [List.length_append,List.length_cons,List.length_nil] at h1  ⊢; omega) | (simp only [List.length_append,List.flatten_cons,List.flatten_nil,List.append_nil,List.length_cons,List.length_nil] at h1  ⊢; omega)) (by have h1:=HS.out.size; simp; omega))
  have e1:([[32]]:List Nm).length=1:=rfl
  rw [e1] at HPU;have HBN:=zH hbn;clear e1 hbn;go_wp2_with fail;refine HPU.out.mono ?_;rintro e w5 ⟨rfl,hp1,hf1⟩;have HS2:=zH (HS.out.next HBN.out hp1 hf1);have HKB2:=zH (hf1.blk (HKB.out.alloc _) pt_syn);clear HS HKB y0 y1 y2 y3 y4 y5 hp1 hf1 HPU HBN;have HS:=HS2;have HKB:=HKB2;clear HS2 HKB2;have y0:w5.cell? ⟨KB,0,none⟩=some (.int .i64 24):=HKB.out.cell 0
  have y1:w5.cell? ⟨KB,1,none⟩=some (.string ⟨tx.toArray⟩):=HKB.out.cell 1
  have y2:w5.cell? ⟨KB,2,none⟩=some (.int .i64 nu):=HKB.out.cell 2
  have y3:w5.cell? ⟨KB,3,none⟩=some (.slice xn nm.length cn):=HKB.out.cell 3
  have y4:w5.cell? ⟨KB,4,none⟩=some (.slice (some ⟨b0,off,none⟩) 3 ck):=HKB.out.cell 4
  have y5:w5.cell? ⟨KB,5,none⟩=some (.int .i64 ps):=HKB.out.cell 5
  obtain ⟨z0,z1,z2,z3,z4,z5⟩:=HZ2.out
  have trz:∀o u,w0.cell? ⟨b0,o,none⟩=some u→w5.cell? ⟨b0,o,none⟩=some u:=fun o u h=>(HS.out.bel.cell (p:=⟨b0,o,none⟩) (by rw [← HB.out]; exact HB0.out)).trans h
  replace z0:=trz _ _ z0
  replace z1:=trz _ _ z1
  replace z2:=trz _ _ z2
  replace z3:=trz _ _ z3
  replace z4:=trz _ _ z4
  replace z5:=trz _ _ z5
  clear trz
  have HC:=zH (HE2.out w5 (((((l++([[102,111,114,32],tx,[32,105,110,32]]:List Nm).flatten)++E0)++([[32,46,46,32]]:List Nm).flatten)++E1)++([[32]]:List Nm).flatten) HS.out.bel HS.out.prt (by have h1:=HBND.out; unfold Mw at h1 ⊢; first | (simp only [List.length_append,List.length_cons,List.length_nil] at h1  ⊢; omega) | (simp only [List.length_append,List.flatten_cons,List.flatten_nil,List.append_nil,List.length_cons,List.length_nil] at h1  ⊢; omega)))
  go_wp2_with fail;refine HC.out.mono ?_;rintro e w6 ⟨rfl,a9,hc1,hp1,hf1⟩;have HS2:=zH (HS.out.next (Below.refl _ _) hp1 hf1);have HC9:Hid (Cut a9 ((((((l++([[102,111,114,32],tx,[32,105,110,32]]:List Nm).flatten)++E0)++([[32,46,46,32]]:List Nm).flatten)++E1)++([[32]]:List Nm).flatten)++E2)):=hc1;clear HS hp1 hf1 hc1 HC z0 z1 z2 z3 z4 z5 HKB y0 y1 y2 y3 y4 y5;have HS:=HS2;clear HS2;go_wp2_with fail
  first
   | refine bodyPost_ret (results_none rfl _ _ _) rfl ⟨rfl,_,?_,HS.out.prt,HS.out.fr⟩
   | refine bodyPost_end (results_none rfl _ _ _) rfl ⟨rfl,_,?_,HS.out.prt,HS.out.fr⟩
  have h1:=HC9.out
  simpa [List.append_assoc,HRT.out] using h1
 ·-- 25
  obtain rfl:kd=25:=hkd
  clear hkd2;have hT:TT=blkT k d:=by rw [← HTT.out]; rfl
  rw [hT] at HBND;have HRT:=zH hT;clear hT HTT;have HC:=zH (HKK.out ⟨25,tx,nu,nm,ps⟩ k d xn xk cn ck wz l HN.out (st_blk HSN.out rfl) HKR.out (by rw [HB.out]; exact HS.out.bel) (by rw [HB.out]; exact HS.out.prt) HBND.out)
  rw [HB.out] at HC;unfold ndV at HC;simp only at HC;go_wp2_with fail;refine HC.out.mono ?_;rintro e w3 ⟨rfl,a2,hc1,hp1,hf1⟩;have HS2:=zH (HS.out.next (Below.refl _ _) hp1 hf1);have HC2:Hid (Cut a2 (l++(blkT k d))):=hc1;clear HS hp1 hf1 hc1 HC HKB y0 y1 y2 y3 y4 y5;have HS:=HS2;clear HS2;go_wp2_with fail;first
   | refine bodyPost_ret (results_none rfl _ _ _) rfl ⟨rfl,_,?_,HS.out.prt,HS.out.fr⟩
   | refine bodyPost_end (results_none rfl _ _ _) rfl ⟨rfl,_,?_,HS.out.prt,HS.out.fr⟩
  have h1:=HC2.out
  simpa [List.append_assoc,HRT.out] using h1
 ·-- 26
  obtain rfl:kd=26:=hkd
  clear hkd2;obtain ⟨h0,k0,rfl,hb25,hrt0⟩:=st_fu HSN.out rfl;obtain ⟨b0,off,xn0,cn0,xk0,ck0,rfl,hb0,hz0,hk0⟩:=HKR.out.node0;have hcs:=row_sh HKR.out;have HB0:=zH hb0;have HZ0:=zH hz0;have HK0:=zH hk0;clear hb0 hz0 hk0;simp only [Fo.len,Nat.zero_add] at y4 HKB hcs
  have HE0:=zH (fun w l g1 g2 g3=>HKK.out h0 k0 d xn0 xk0 cn0 ck0 w l (by have h1:=HN.out; simp only [Fo.size] at h1; omega) hrt0 HK0.out g1 g2 g3)
  rw [HB.out] at HE0;unfold ndV at HE0;obtain ⟨E0,hE0⟩:∃E,blkT k0 d=E:=⟨_,rfl⟩;rw [hE0] at HE0;have HQ0:Hid (stOne h0 (ntT k0) d=E0):=by show _=_; rw [stOne_blk hb25]; exact hE0
  clear hE0 hrt0 hb25;have hT:TT=([102,110,32]++tx++[40]++Lib.join nm cm++[41,32])++E0:=by rw [← HTT.out,← HQ0.out]; rfl
  rw [hT] at HBND;have HRT:=zH hT;clear hT HTT;have hjl:(Lib.join nm cm).length≤140737488355328:=by have h1:=HBND.out; unfold Mw at h1; simp only [List.length_append,List.length_cons,List.length_nil] at h1; omega
  have hnl:nm.length≤140737488355328:=by have h1:=join_count nm; have h2:=HBND.out; unfold Mw at h2; simp only [List.length_append,List.length_cons,List.length_nil] at h2; omega
  go_upto_region 24 with fail
  have HJ:Hid (∀w',Fr B PT wz w'→Calls Tryz.prog 92 #[.slice xn nm.length cn,.string ⟨#[44,32]⟩] w' fun e w''=>e=.returned (.string ⟨(Lib.join nm cm).toArray⟩)∧Below w'.heap.size w' w''):=fun w' hw=>
   join_run _ nm w' (HNR.out.below (by rw [HB.out]; exact HS.out.bel.trans (hw.below HS.out.size))) hjl hnl
  have u1:∀w',Fr B PT wz w'→w'.cell? ⟨KB,1,none⟩=some (.string ⟨tx.toArray⟩):=fun w' hw=>(hw.blk HKB.out pt_syn).cell 1
  have u3:∀w',Fr B PT wz w'→w'.cell? ⟨KB,3,none⟩=some (.slice xn nm.length cn):=fun w' hw=>(hw.blk HKB.out pt_syn).cell 3
  have HPUT:=zH (fun wv ts (hs:PrS w0 B P w wv l) (hts:ts.length≤100) (hb:l.length+ts.flatten.length≤140737488355328)=>put_any B P l wv.heap.size ts (wv.alloc (.cells (ts.map fun t=>Value.string ⟨t.toArray⟩).toArray 9)) (hs.prt.below ((Below.refl wv.heap.size wv).alloc (Nat.le_refl _) _)) (Blk.new wv 9 _) hts hb (by have h1:=hs.size; simp; omega))
  obtain ⟨J,hJ⟩:∃J,Lib.join nm cm=J:=⟨_,rfl⟩
  rw [hJ] at HBND HRT HJ;clear hJ y0 y1 y2 y3 y4 y5 hjl hnl;refine wp_region_held_drew (S:=fun w'=>Fr B PT wz w') (by kernel_rfl) (Fr.refl B PT wz).drew (fun hS=>?_)
  refine zT 0 hS ?_;try simp only [Act.put,zs1,zs2,zs3]
  refine zT 1 hS ?_;try simp only [Act.put,zs1,zs2,zs3]
  refine zT 2 hS ?_;try simp only [Act.put,zs1,zs2,zs3]
  refine zT 3 hS ?_;try simp only [Act.put,zs1,zs2,zs3]
  refine zT 4 hS ?_;try simp only [Act.put,zs1,zs2,zs3]
  refine zR 5 fun K hK=>?_
  go_simp;refine (HJ.out _ hS).mono ?_;rintro e wv ⟨rfl,hb9⟩;refine hK.out _ _ ?_ fun hT=>?_
  ·exact hS.trans (Fr.of_below hb9 PT)
  replace hS:=hT;clear hT hK K;try simp only [Act.put,zs1,zs2,zs3]
  have HS2:Hid (PrS w0 B P w wv l):=HS.out.below ⟨hb9.os,hb9.tape,hb9.output,hb9.size,hb9.block⟩
  refine zR 6 fun K hK=>?_
  go_simp;refine hK.out _ _ ?_ fun hT=>?_
  ·exact hS.trans ((Fr.refl B PT wv).alloc _)
  replace hS:=hT;clear hT hK K;try simp only [Act.put,zs1,zs2,zs3]
  refine zR 7 fun K hK=>?_
  go_simp;refine (HPUT.out wv [[102,110,32],tx,[40],J,[41,32]] HS2.out (by simp) (by have h1:=HBND.out; unfold Mw at h1; first | (simp only [List.length_append,List.length_cons,List.length_nil] at h1  ⊢; omega) | (simp only [List.length_append,List.flatten_cons,List.flatten_nil,List.append_nil,List.length_cons,List.length_nil] at h1  ⊢; omega))).mono ?_
  rintro e w1 ⟨rfl,hp1,hf1⟩;refine hK.out _ _ ?_ fun hT=>?_
  ·exact hS.trans hf1
  replace hS:=hT;clear hT hK K;try simp only [Act.put,zs1,zs2,zs3]
  refine wpAnyH_done (by kernel_rfl) ?_ _
  have HS3:=zH (HS2.out.next ((Below.refl wv.heap.size wv).alloc (Nat.le_refl _) _) hp1 hf1)
  have HKB3:=zH (hS.blk HKB.out pt_syn)
  clear HS HS2 HKB hp1 hf1 hS u1 u3 HJ HPUT;have HS:=HS3;have HKB:=HKB3;clear HS3 HKB3;have y0:w1.cell? ⟨KB,0,none⟩=some (.int .i64 26):=HKB.out.cell 0;have y1:w1.cell? ⟨KB,1,none⟩=some (.string ⟨tx.toArray⟩):=HKB.out.cell 1;have y2:w1.cell? ⟨KB,2,none⟩=some (.int .i64 nu):=HKB.out.cell 2;have y3:w1.cell? ⟨KB,3,none⟩=some (.slice xn nm.length cn):=HKB.out.cell 3
  have y4:w1.cell? ⟨KB,4,none⟩=some (.slice (some ⟨b0,off,none⟩) 1 ck):=HKB.out.cell 4
  have y5:w1.cell? ⟨KB,5,none⟩=some (.int .i64 ps):=HKB.out.cell 5
  obtain ⟨z0,z1,z2,z3,z4,z5⟩:=HZ0.out
  have trz:∀o u,w0.cell? ⟨b0,o,none⟩=some u→w1.cell? ⟨b0,o,none⟩=some u:=fun o u h=>(HS.out.bel.cell (p:=⟨b0,o,none⟩) (by rw [← HB.out]; exact HB0.out)).trans h
  replace z0:=trz _ _ z0
  replace z1:=trz _ _ z1
  replace z2:=trz _ _ z2
  replace z3:=trz _ _ z3
  replace z4:=trz _ _ z4
  replace z5:=trz _ _ z5
  clear trz;have HC:=zH (HE0.out w1 (l++([[102,110,32],tx,[40],J,[41,32]]:List Nm).flatten) HS.out.bel HS.out.prt (by have h1:=HBND.out; unfold Mw at h1 ⊢; first | (simp only [List.length_append,List.length_cons,List.length_nil] at h1  ⊢; omega) | (simp only [List.length_append,List.flatten_cons,List.flatten_nil,List.append_nil,List.length_cons,List.length_nil] at h1  ⊢; omega)))
  go_wp2_with fail;refine HC.out.mono ?_;rintro e w2 ⟨rfl,a9,hc1,hp1,hf1⟩;have HS2:=zH (HS.out.next (Below.refl _ _) hp1 hf1);have HC9:Hid (Cut a9 ((l++([[102,110,32],tx,[40],J,[41,32]]:List Nm).flatten)++E0)):=hc1;clear HS hp1 hf1 hc1 HC z0 z1 z2 z3 z4 z5 HKB y0 y1 y2 y3 y4 y5;have HS:=HS2;clear HS2;go_wp2_with fail;first
   | refine bodyPost_ret (results_none rfl _ _ _) rfl ⟨rfl,_,?_,HS.out.prt,HS.out.fr⟩
   | refine bodyPost_end (results_none rfl _ _ _) rfl ⟨rfl,_,?_,HS.out.prt,HS.out.fr⟩
  have h1:=HC9.out
  simpa [List.append_assoc,HRT.out] using h1
 ·-- 27
  obtain rfl:kd=27:=hkd
  clear hkd2;rcases st_re HSN.out rfl with rfl | ⟨h0,k0,rfl,hen0⟩
  ·
   simp only [Fo.len] at y4 HKB;have hT:TT=[114,101,116,117,114,110]++[59]:=by rw [← HTT.out]; rfl
   rw [hT] at HBND;have HRT:=zH hT;clear hT HTT;have hbn:=(Below.refl wz.heap.size wz).alloc (Nat.le_refl _) (.cells #[.string ⟨#[114,101,116,117,114,110]⟩] 9)
   have HPU:=zH (put_any B P l wz.heap.size [[114,101,116,117,114,110]] (wz.alloc (.cells #[.string ⟨#[114,101,116,117,114,110]⟩] 9)) (HS.out.prt.below hbn) (Blk.new wz 9 #[.string ⟨#[114,101,116,117,114,110]⟩]) (by simp) (by have h1:=HBND.out; unfold Mw at h1; first | (simp only [List.length_append,List.length_cons,List.length_nil] at h1  ⊢; omega) | (simp only [List.length_append,List.flatten_cons,List.flatten_nil,List.append_nil,List.length_cons,List.length_nil] at h1  ⊢; omega)) (by have h1:=HS.out.size; simp; omega))
   have e1:([[114,101,116,117,114,110]]:List Nm).length=1:=rfl
   rw [e1] at HPU;have HBN:=zH hbn;clear e1 hbn;go_wp2_with fail;refine HPU.out.mono ?_;rintro e w1 ⟨rfl,hp1,hf1⟩;have HS2:=zH (HS.out.next HBN.out hp1 hf1);have HKB2:=zH (hf1.blk (HKB.out.alloc _) pt_syn);clear HS HKB y0 y1 y2 y3 y4 y5 hp1 hf1 HPU HBN;have HS:=HS2;have HKB:=HKB2;clear HS2 HKB2;have y0:w1.cell? ⟨KB,0,none⟩=some (.int .i64 27):=HKB.out.cell 0
   have y1:w1.cell? ⟨KB,1,none⟩=some (.string ⟨tx.toArray⟩):=HKB.out.cell 1
   have y2:w1.cell? ⟨KB,2,none⟩=some (.int .i64 nu):=HKB.out.cell 2
   have y3:w1.cell? ⟨KB,3,none⟩=some (.slice xn nm.length cn):=HKB.out.cell 3
   have y4:w1.cell? ⟨KB,4,none⟩=some (.slice xk 0 ck):=HKB.out.cell 4
   have y5:w1.cell? ⟨KB,5,none⟩=some (.int .i64 ps):=HKB.out.cell 5
   have hbn:=(Below.refl w1.heap.size w1).alloc (Nat.le_refl _) (.cells #[.string ⟨#[59]⟩] 9)
   have HPU:=zH (put_any B P (l++([[114,101,116,117,114,110]]:List Nm).flatten) w1.heap.size [[59]] (w1.alloc (.cells #[.string ⟨#[59]⟩] 9)) (HS.out.prt.below hbn) (Blk.new w1 9 #[.string ⟨#[59]⟩]) (by simp) (by have h1:=HBND.out; unfold Mw at h1; first | (simp only [List.length_append,List.length_cons,List.length_nil] at h1  ⊢; omega) | (simp only [List.length_append,List.flatten_cons,List.flatten_nil,List.append_nil,List.length_cons,List.length_nil] at h1  ⊢; omega)) (by have h1:=HS.out.size; simp; omega))
   have e1:([[59]]:List Nm).length=1:=rfl
   rw [e1] at HPU;have HBN:=zH hbn;clear e1 hbn;go_wp2_with fail;refine HPU.out.mono ?_;rintro e w2 ⟨rfl,hp1,hf1⟩;have HS2:=zH (HS.out.next HBN.out hp1 hf1);clear HS hp1 hf1 HPU HBN HKB y0 y1 y2 y3 y4 y5;have HS:=HS2;clear HS2;go_wp2_with fail;first
    | refine bodyPost_ret (results_none rfl _ _ _) rfl ⟨rfl,_,?_,HS.out.prt,HS.out.fr⟩
    | refine bodyPost_end (results_none rfl _ _ _) rfl ⟨rfl,_,?_,HS.out.prt,HS.out.fr⟩
   have h1:=Cut.refl ((l++([[114,101,116,117,114,110]]:List Nm).flatten)++([[59]]:List Nm).flatten)
   simpa [List.append_assoc,HRT.out] using h1
  ·
   obtain ⟨b0,off,xn0,cn0,xk0,ck0,rfl,hb0,hz0,hk0⟩:=HKR.out.node0
   have hcs:=row_sh HKR.out
   have HB0:=zH hb0
   have HZ0:=zH hz0
   have HK0:=zH hk0
   clear hb0 hz0 hk0;simp only [Fo.len,Nat.zero_add] at y4 HKB hcs;have HE0:=zH (fun w l g1 g2 g3=>px_all w0 P HTAB.out (k0.size+1) h0 k0 xn0 xk0 cn0 ck0 w l (Nat.lt_succ_self _) hen0 HK0.out g1 g2 g3)
   rw [HB.out] at HE0;unfold ndV at HE0;obtain ⟨E0,hE0⟩:∃E,exOne h0 (exT k0)=E:=⟨_,rfl⟩;rw [hE0] at HE0;have HQ0:=zH hE0;clear hE0 hen0;have hT:TT=[114,101,116,117,114,110]++([32]++E0)++[59]:=by rw [← HTT.out,← HQ0.out]; rfl
   rw [hT] at HBND;have HRT:=zH hT;clear hT HTT;have hbn:=(Below.refl wz.heap.size wz).alloc (Nat.le_refl _) (.cells #[.string ⟨#[114,101,116,117,114,110]⟩] 9)
   have HPU:=zH (put_any B P l wz.heap.size [[114,101,116,117,114,110]] (wz.alloc (.cells #[.string ⟨#[114,101,116,117,114,110]⟩] 9)) (HS.out.prt.below hbn) (Blk.new wz 9 #[.string ⟨#[114,101,116,117,114,110]⟩]) (by simp) (by have h1:=HBND.out; unfold Mw at h1; first | (simp only [List.length_append,List.length_cons,List.length_nil] at h1  ⊢; omega) | (simp only [List.length_append,List.flatten_cons,List.flatten_nil,List.append_nil,List.length_cons,List.length_nil] at h1  ⊢; omega)) (by have h1:=HS.out.size; simp; omega))
   have e1:([[114,101,116,117,114,110]]:List Nm).length=1:=rfl
   rw [e1] at HPU;have HBN:=zH hbn;clear e1 hbn;go_wp2_with fail;refine HPU.out.mono ?_;rintro e w1 ⟨rfl,hp1,hf1⟩;have HS2:=zH (HS.out.next HBN.out hp1 hf1);have HKB2:=zH (hf1.blk (HKB.out.alloc _) pt_syn);clear HS HKB y0 y1 y2 y3 y4 y5 hp1 hf1 HPU HBN;have HS:=HS2;have HKB:=HKB2;clear HS2 HKB2;have y0:w1.cell? ⟨KB,0,none⟩=some (.int .i64 27):=HKB.out.cell 0
   have y1:w1.cell? ⟨KB,1,none⟩=some (.string ⟨tx.toArray⟩):=HKB.out.cell 1
   have y2:w1.cell? ⟨KB,2,none⟩=some (.int .i64 nu):=HKB.out.cell 2
   have y3:w1.cell? ⟨KB,3,none⟩=some (.slice xn nm.length cn):=HKB.out.cell 3
   have y4:w1.cell? ⟨KB,4,none⟩=some (.slice (some ⟨b0,off,none⟩) 1 ck):=HKB.out.cell 4
   have y5:w1.cell? ⟨KB,5,none⟩=some (.int .i64 ps):=HKB.out.cell 5
   have hbn:=(Below.refl w1.heap.size w1).alloc (Nat.le_refl _) (.cells #[.string ⟨#[32]⟩] 9)
   have HPU:=zH (put_any B P (l++([[114,101,116,117,114,110]]:List Nm).flatten) w1.heap.size [[32]] (w1.alloc (.cells #[.string ⟨#[32]⟩] 9)) (HS.out.prt.below hbn) (Blk.new w1 9 #[.string ⟨#[32]⟩]) (by simp) (by have h1:=HBND.out; unfold Mw at h1; first | (simp only [List.length_append,List.length_cons,List.length_nil] at h1  ⊢; omega) | (simp only [List.length_append,List.flatten_cons,List.flatten_nil,List.append_nil,List.length_cons,List.length_nil] at h1  ⊢; omega)) (by have h1:=HS.out.size; simp; omega))
   have e1:([[32]]:List Nm).length=1:=rfl
   rw [e1] at HPU;have HBN:=zH hbn;clear e1 hbn;go_wp2_with fail;refine HPU.out.mono ?_;rintro e w2 ⟨rfl,hp1,hf1⟩;have HS2:=zH (HS.out.next HBN.out hp1 hf1);have HKB2:=zH (hf1.blk (HKB.out.alloc _) pt_syn);clear HS HKB y0 y1 y2 y3 y4 y5 hp1 hf1 HPU HBN;have HS:=HS2;have HKB:=HKB2;clear HS2 HKB2;have y0:w2.cell? ⟨KB,0,none⟩=some (.int .i64 27):=HKB.out.cell 0
   have y1:w2.cell? ⟨KB,1,none⟩=some (.string ⟨tx.toArray⟩):=HKB.out.cell 1
   have y2:w2.cell? ⟨KB,2,none⟩=some (.int .i64 nu):=HKB.out.cell 2
   have y3:w2.cell? ⟨KB,3,none⟩=some (.slice xn nm.length cn):=HKB.out.cell 3
   have y4:w2.cell? ⟨KB,4,none⟩=some (.slice (some ⟨b0,off,none⟩) 1 ck):=HKB.out.cell 4
   have y5:w2.cell? ⟨KB,5,none⟩=some (.int .i64 ps):=HKB.out.cell 5
   obtain ⟨z0,z1,z2,z3,z4,z5⟩:=HZ0.out
   have trz:∀o u,w0.cell? ⟨b0,o,none⟩=some u→w2.cell? ⟨b0,o,none⟩=some u:=fun o u h=>(HS.out.bel.cell (p:=⟨b0,o,none⟩) (by rw [← HB.out]; exact HB0.out)).trans h
   replace z0:=trz _ _ z0
   replace z1:=trz _ _ z1
   replace z2:=trz _ _ z2
   replace z3:=trz _ _ z3
   replace z4:=trz _ _ z4
   replace z5:=trz _ _ z5
   clear trz
   have HC:=zH (HE0.out w2 ((l++([[114,101,116,117,114,110]]:List Nm).flatten)++([[32]]:List Nm).flatten) HS.out.bel HS.out.prt (by have h1:=HBND.out; unfold Mw at h1 ⊢; first | (simp only [List.length_append,List.length_cons,List.length_nil] at h1  ⊢; omega) | (simp only [List.length_append,List.flatten_cons,List.flatten_nil,List.append_nil,List.length_cons,List.length_nil] at h1  ⊢; omega)))
   go_wp2_with fail;refine HC.out.mono ?_;rintro e w3 ⟨rfl,hp1,hf1⟩;have HS2:=zH (HS.out.next (Below.refl _ _) hp1 hf1);have HKB2:=zH (hf1.blk HKB.out pt_syn);clear HS HKB y0 y1 y2 y3 y4 y5 hp1 hf1 HC z0 z1 z2 z3 z4 z5;have HS:=HS2;have HKB:=HKB2;clear HS2 HKB2;have y0:w3.cell? ⟨KB,0,none⟩=some (.int .i64 27):=HKB.out.cell 0;have y1:w3.cell? ⟨KB,1,none⟩=some (.string ⟨tx.toArray⟩):=HKB.out.cell 1
   have y2:w3.cell? ⟨KB,2,none⟩=some (.int .i64 nu):=HKB.out.cell 2
   have y3:w3.cell? ⟨KB,3,none⟩=some (.slice xn nm.length cn):=HKB.out.cell 3
   have y4:w3.cell? ⟨KB,4,none⟩=some (.slice (some ⟨b0,off,none⟩) 1 ck):=HKB.out.cell 4
   have y5:w3.cell? ⟨KB,5,none⟩=some (.int .i64 ps):=HKB.out.cell 5
   have hbn:=(Below.refl w3.heap.size w3).alloc (Nat.le_refl _) (.cells #[.string ⟨#[59]⟩] 9)
   have HPU:=zH (put_any B P (((l++([[114,101,116,117,114,110]]:List Nm).flatten)++([[32]]:List Nm).flatten)++E0) w3.heap.size [[59]] (w3.alloc (.cells #[.string ⟨#[59]⟩] 9)) (HS.out.prt.below hbn) (Blk.new w3 9 #[.string ⟨#[59]⟩]) (by simp) (by have h1:=HBND.out; unfold Mw at h1; first | (simp only [List.length_append,List.length_cons,List.length_nil] at h1  ⊢; omega) | (simp only [List.length_append,List.flatten_cons,List.flatten_nil,List.append_nil,List.length_cons,List.length_nil] at h1  ⊢; omega)) (by have h1:=HS.out.size; simp; omega))
   have e1:([[59]]:List Nm).length=1:=rfl
   rw [e1] at HPU;have HBN:=zH hbn;clear e1 hbn;go_wp2_with fail;refine HPU.out.mono ?_;rintro e w4 ⟨rfl,hp1,hf1⟩;have HS2:=zH (HS.out.next HBN.out hp1 hf1);clear HS hp1 hf1 HPU HBN HKB y0 y1 y2 y3 y4 y5;have HS:=HS2;clear HS2;go_wp2_with fail;first
    | refine bodyPost_ret (results_none rfl _ _ _) rfl ⟨rfl,_,?_,HS.out.prt,HS.out.fr⟩
    | refine bodyPost_end (results_none rfl _ _ _) rfl ⟨rfl,_,?_,HS.out.prt,HS.out.fr⟩
   have h1:=Cut.refl ((((l++([[114,101,116,117,114,110]]:List Nm).flatten)++([[32]]:List Nm).flatten)++E0)++([[59]]:List Nm).flatten)
   simpa [List.append_assoc,HRT.out] using h1
 ·-- 28
  obtain rfl:kd=28:=hkd
  clear hkd2;obtain ⟨h0,k0,rfl,hen0⟩:=st_ex1 HSN.out (by simp)
  obtain ⟨b0,off,xn0,cn0,xk0,ck0,rfl,hb0,hz0,hk0⟩:=HKR.out.node0
  have hcs:=row_sh HKR.out
  have HB0:=zH hb0
  have HZ0:=zH hz0
  have HK0:=zH hk0
  clear hb0 hz0 hk0;simp only [Fo.len,Nat.zero_add] at y4 HKB hcs;have HE0:=zH (fun w l g1 g2 g3=>px_all w0 P HTAB.out (k0.size+1) h0 k0 xn0 xk0 cn0 ck0 w l (Nat.lt_succ_self _) hen0 HK0.out g1 g2 g3)
  rw [HB.out] at HE0;unfold ndV at HE0;obtain ⟨E0,hE0⟩:∃E,exOne h0 (exT k0)=E:=⟨_,rfl⟩;rw [hE0] at HE0;have HQ0:=zH hE0;clear hE0 hen0;have hT:TT=E0++[59]:=by rw [← HTT.out,← HQ0.out]; rfl
  rw [hT] at HBND;have HRT:=zH hT;clear hT HTT;obtain ⟨z0,z1,z2,z3,z4,z5⟩:=HZ0.out;have trz:∀o u,w0.cell? ⟨b0,o,none⟩=some u→wz.cell? ⟨b0,o,none⟩=some u:=fun o u h=>(HS.out.bel.cell (p:=⟨b0,o,none⟩) (by rw [← HB.out]; exact HB0.out)).trans h
  replace z0:=trz _ _ z0
  replace z1:=trz _ _ z1
  replace z2:=trz _ _ z2
  replace z3:=trz _ _ z3
  replace z4:=trz _ _ z4
  replace z5:=trz _ _ z5
  clear trz;have HC:=zH (HE0.out wz l HS.out.bel HS.out.prt (by have h1:=HBND.out; unfold Mw at h1 ⊢; first | (simp only [List.length_append,List.length_cons,List.length_nil] at h1  ⊢; omega) | (simp only [List.length_append,List.flatten_cons,List.flatten_nil,List.append_nil,List.length_cons,List.length_nil] at h1  ⊢; omega)))
  go_wp2_with fail;refine HC.out.mono ?_;rintro e w1 ⟨rfl,hp1,hf1⟩;have HS2:=zH (HS.out.next (Below.refl _ _) hp1 hf1);have HKB2:=zH (hf1.blk HKB.out pt_syn);clear HS HKB y0 y1 y2 y3 y4 y5 hp1 hf1 HC z0 z1 z2 z3 z4 z5;have HS:=HS2;have HKB:=HKB2;clear HS2 HKB2;have y0:w1.cell? ⟨KB,0,none⟩=some (.int .i64 28):=HKB.out.cell 0;have y1:w1.cell? ⟨KB,1,none⟩=some (.string ⟨tx.toArray⟩):=HKB.out.cell 1
  have y2:w1.cell? ⟨KB,2,none⟩=some (.int .i64 nu):=HKB.out.cell 2
  have y3:w1.cell? ⟨KB,3,none⟩=some (.slice xn nm.length cn):=HKB.out.cell 3
  have y4:w1.cell? ⟨KB,4,none⟩=some (.slice (some ⟨b0,off,none⟩) 1 ck):=HKB.out.cell 4
  have y5:w1.cell? ⟨KB,5,none⟩=some (.int .i64 ps):=HKB.out.cell 5
  have hbn:=(Below.refl w1.heap.size w1).alloc (Nat.le_refl _) (.cells #[.string ⟨#[59]⟩] 9)
  have HPU:=zH (put_any B P (l++E0) w1.heap.size [[59]] (w1.alloc (.cells #[.string ⟨#[59]⟩] 9)) (HS.out.prt.below hbn) (Blk.new w1 9 #[.string ⟨#[59]⟩]) (by simp) (by have h1:=HBND.out; unfold Mw at h1; first | (simp only [List.length_append,List.length_cons,List.length_nil] at h1  ⊢; omega) | (simp only [List.length_append,List.flatten_cons,List.flatten_nil,List.append_nil,List.length_cons,List.length_nil] at h1  ⊢; omega)) (by have h1:=HS.out.size; simp; omega))
  have e1:([[59]]:List Nm).length=1:=rfl
  rw [e1] at HPU;have HBN:=zH hbn;clear e1 hbn;go_wp2_with fail;refine HPU.out.mono ?_;rintro e w2 ⟨rfl,hp1,hf1⟩;have HS2:=zH (HS.out.next HBN.out hp1 hf1);clear HS hp1 hf1 HPU HBN HKB y0 y1 y2 y3 y4 y5;have HS:=HS2;clear HS2;go_wp2_with fail;first
   | refine bodyPost_ret (results_none rfl _ _ _) rfl ⟨rfl,_,?_,HS.out.prt,HS.out.fr⟩
   | refine bodyPost_end (results_none rfl _ _ _) rfl ⟨rfl,_,?_,HS.out.prt,HS.out.fr⟩
  have h1:=Cut.refl ((l++E0)++([[59]]:List Nm).flatten)
  simpa [List.append_assoc,HRT.out] using h1
 ·-- 29
  obtain rfl:kd=29:=hkd
  clear hkd2;have hT:TT=[98,114,101,97,107,59]:=by rw [← HTT.out]; rfl
  rw [hT] at HBND;have HRT:=zH hT;clear hT HTT;have hbn:=(Below.refl wz.heap.size wz).alloc (Nat.le_refl _) (.cells #[.string ⟨#[98,114,101,97,107,59]⟩] 9)
  have HPU:=zH (put_any B P l wz.heap.size [[98,114,101,97,107,59]] (wz.alloc (.cells #[.string ⟨#[98,114,101,97,107,59]⟩] 9)) (HS.out.prt.below hbn) (Blk.new wz 9 #[.string ⟨#[98,114,101,97,107,59]⟩]) (by simp) (by have h1:=HBND.out; unfold Mw at h1; first | (simp only [List.length_cons,List.length_nil] at h1  ⊢; omega) | (simp only [List.flatten_cons,List.flatten_nil,List.append_nil,List.length_cons,List.length_nil] at h1  ⊢; omega)) (by have h1:=HS.out.size; simp; omega))
  have e1:([[98,114,101,97,107,59]]:List Nm).length=1:=rfl
  rw [e1] at HPU;have HBN:=zH hbn;clear e1 hbn;go_wp2_with fail;refine HPU.out.mono ?_;rintro e w1 ⟨rfl,hp1,hf1⟩;have HS2:=zH (HS.out.next HBN.out hp1 hf1);clear HS hp1 hf1 HPU HBN HKB y0 y1 y2 y3 y4 y5;have HS:=HS2;clear HS2;go_wp2_with fail;first
   | refine bodyPost_ret (results_none rfl _ _ _) rfl ⟨rfl,_,?_,HS.out.prt,HS.out.fr⟩
   | refine bodyPost_end (results_none rfl _ _ _) rfl ⟨rfl,_,?_,HS.out.prt,HS.out.fr⟩
  have h1:=Cut.refl (l++([[98,114,101,97,107,59]]:List Nm).flatten)
  simpa [List.append_assoc,HRT.out] using h1
theorem psl_all (w0:World) (P:Nat) (htab:Lib.TabIs Tryz.prog w0 "internal/strconv.uint64pow10" .u64 Lib.pow10Tab):∀N,PsOk w0 P N∧PlOk w0 P (N+1):=by
 intro N;induction N with
 | zero=>
  have h0:PsOk w0 P 0:=fun h k d xn xk cn ck w l hN=>by omega
  exact ⟨h0,sts_step w0 P 0 h0⟩
 | succ N ih=>
  have h1:=pst_step w0 P N htab ih.1 (pblock_any w0 P (N+1) ih.2)
  exact ⟨h1,sts_step w0 P (N+1) h1⟩
end Go.Proofs.YtbaidkefobhipaaGreatDoor
