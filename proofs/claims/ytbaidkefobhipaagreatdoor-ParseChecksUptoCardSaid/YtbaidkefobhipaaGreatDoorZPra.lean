/-
  Walk: the parser's statement, with what its parts answer. (Printed by gen_pr.py.)
-/
import Derived.Test.YtbaidkefobhipaaGreatDoorZPqa
namespace Go.Proofs.YtbaidkefobhipaaGreatDoor
set_option maxHeartbeats 16000000
set_option maxRecDepth 100000
open Go.RowKit

theorem pstep_load {P:Program} {w:World} {ops:Array Oper} {o:Oper} {a:Act} {K:Act→World→Prop} {Q:Exit→Act→World→Prop} {E:Prop} (hgd:o.guard=none) (ty:TypeId) (x:Operand) (ho:o.op=.load ty x)
  (g:Nat) (hx:a.eval x=.pointer (some ⟨g,0,none⟩)) (t:TypeId) (cs:Array Value) (fr:Nat×Nat) (d:TypeDesc) (hg:w.heap[g]?=some (.cells cs t fr))
  (hu:P.underlying ty=some d) (hd:(match d with | .struct _ | .array _ _=>true | _=>false)=true) (hi:(P.info? ty).map (·.size)=some cs.size)
  (h:K (a.put o.dst (.agg cs)) w):if Region.wanted o (yielded ops a.tmps)=true then Oper.wp P o a w K Q else E:=by
 have hw:Region.wanted o (yielded ops a.tmps)=true:=by simp [Region.wanted,hgd]
 rw [if_pos hw];exact wp_load_row ty x ho g hx t cs fr d hg hu hd hi h
theorem expT_is {s:List UInt8} {l:List Tk} (h:isT s l=true):∃t,expT s l=.ok (t,l.tail):=by
 cases l with
 | nil=>simp [isT] at h
 | cons t r=>exact ⟨t,by simp only [expT]; rw [if_pos h]; rfl⟩

theorem sta_zero:OpOk 34 [.int .i64 65] (fun l=>if begT l then failT 12 l else failT 18 l):=by
 intro P l w hp;obtain ⟨t,r,rfl⟩:=hp.ends.cons;have hba:=(Below.refl w.heap.size w).alloc (Nat.le_refl _) (.cells zSyn 31);have HBA:=zH hba;have HP:=zH (hp.below hba);have HBG:=zH (begins_any t r P _ (hp.below hba));obtain ⟨q,hq⟩:∃q,begT (t::r)=q:=⟨_,rfl⟩;rw [hq] at HBG;simp only;rw [hq];clear hp hba hq;unfold zSyn at HBA HBG HP;show Calls _ _ #[_,_] _ _
 go_enter Tryz.func34,Tryz.ntmps34
 go_upto_region 1 with fail
 generalize w.alloc (.cells #[.int .i64 0,.string ⟨#[]⟩,.int .i64 0,.slice none 0 0,.slice none 0 0,.int .i64 0] 31)=wa at*;go_wp2_with fail;refine HBG.out.mono ?_;rintro e w1 ⟨rfl,hb⟩;have HB1:Hid (But P w w1):=(But.of_below HBA.out).step hb
 cases q with
 | false=>
  have HF:=zH (fail_any 18 t r P w1 (HP.out.below hb))
  clear hb HBG;go_wp2_with fail;refine HF.out.mono ?_;rintro e w2 ⟨rfl,hb⟩;have HB2:=zH (HB1.out.trans hb);clear hb HF;go_wp2_with fail;exact ⟨rfl,PaR.bad rfl HB2.out⟩
 | true=>
  have HF:=zH (fail_any 12 t r P w1 (HP.out.below hb))
  clear hb HBG;go_wp2_with fail;refine HF.out.mono ?_;rintro e w2 ⟨rfl,hb⟩;have HB2:=zH (HB1.out.trans hb);clear hb HF;go_wp2_with fail;exact ⟨rfl,PaR.bad rfl HB2.out⟩

theorem sta_succ (L:Nat) (hL:L≤64) (ex st br:Pa Nd) (hex:OpOk 56 [.int .i64 ((L:Int)+1)] ex) (hbk:OpOk 57 [.int .i64 ((L:Int)+1)] (blkP st)) (hbr:OpOk 55 [.int .i64 (L:Nat)] br)
  (hfo:OpOk 58 [.int .i64 (L:Nat)] (forP ex st)) (hfn:OpOk 59 [.int .i64 (L:Nat)] (funP st)) (has:∀(kind:Int) (pos:Nat),OpOk 54 [.int .i64 kind,.int .i64 (L:Nat),.int .i64 (pos:Nat)] (asgP ex kind pos)):
  OpOk 34 [.int .i64 (L:Nat)] (staP ex st br):=by
 intro P l w hp;obtain ⟨t,r,rfl⟩:=hp.ends.cons;have HKA0:=zH (Blk.new w 31 zSyn);have HBA:=zH ((Below.refl w.heap.size w).alloc (Nat.le_refl _) (.cells zSyn 31));have HPW:=zH hp;have hlt:=zH hp.lt;have HEX:=zH hex;have HBK:=zH hbk;have HBR:=zH hbr;have HFO:=zH hfo;have HFN:=zH hfn;have HAS:=zH has;clear hp hex hbk hbr hfo hfn has
 have hwL:IntKind.i64.wrap ((L:Int)+1)=(L:Int)+1:=IntWalk.i64_in _ (by omega)
 have eL:decide ((64:Int) < (L:Int))=false:=by simp; omega
 obtain ⟨R,hR⟩:∃R,staP ex st br (t::r)=R:=⟨_,rfl⟩
 rw [hR];have HRT:Hid (R=if begT (t::r)=false then .error (t.at_,18)
  else if isT (bytes [108,101,116]) (t::r) then asgP ex 20 t.at_ r
  else if isT (bytes [105,102]) (t::r) then br (t::r)
  else if isT (bytes [119,104,105,108,101]) (t::r) then thenT (ex r) fun x l2=>thenT (blkP st l2) fun b l3=>.ok ((hdT 23 [] 0 t.at_,x.one.app b.one),l3)
  else if isT (bytes [102,111,114]) (t::r) then forP ex st (t::r)
  else if isT (bytes [102,110]) (t::r) then funP st (t::r)
  else if isT (bytes [123]) (t::r) then blkP st (t::r)
  else if isT (bytes [98,114,101,97,107]) (t::r) then thenT (expT (bytes [59]) r) fun _ l2=>.ok ((hdT 29 [] 0 t.at_,.nil),l2)
  else if isT (bytes [114,101,116,117,114,110]) (t::r) then
   (if isT (bytes [59]) r then .ok ((hdT 27 [] 0 t.at_,.nil),r.tail) else thenT (ex r) fun x l2=>thenT (expT (bytes [59]) l2) fun _ l3=>.ok ((hdT 27 [] 0 t.at_,x.one),l3))
  else if assT (t::r) then asgP ex 21 t.at_ (t::r)
  else thenT (ex (t::r)) fun x l2=>thenT (expT (bytes [59]) l2) fun _ l3=>.ok ((hdT 28 [] 0 t.at_,x.one),l3)):=by show _=_; rw [← hR]; rfl
 clear hR;unfold zSyn at HKA0 HBA;show Calls _ _ #[_,_] _ _
 go_enter Tryz.func34,Tryz.ntmps34
 go_upto_region 1 with fail
 generalize w.alloc (.cells #[.int .i64 0,.string ⟨#[]⟩,.int .i64 0,.slice none 0 0,.slice none 0 0,.int .i64 0] 31)=wa at*;generalize hA:w.heap.size=A at*;have HWA:=zH hA;clear hA;have HB:Hid (But P w wa):=But.of_below (by rw [HWA.out]; exact HBA.out)
 have HP:Hid (PsW wa P (t::r)):=HPW.out.below (by rw [HWA.out]; exact HBA.out)
 have HKA:=HKA0
 clear HKA0 HBA;have HBG:=zH (begins_any t r P wa HP.out);obtain ⟨qb,hq⟩:∃q,begT (t::r)=q:=⟨_,rfl⟩;rw [hq] at HBG HRT;clear hq;go_wp2_with fail;refine HBG.out.mono ?_;rintro e w1 ⟨rfl,hbw⟩;have hbN:But P wa w1:=But.of_below hbw;have hpN:=HP.out.below hbw;clear HBG hbw;have HP2:=zH hpN;have HB2:=zH (HB.out.trans hbN)
 have HKA2:Hid (Blk w1 A 31 #[.int .i64 0,.string ⟨#[]⟩,.int .i64 0,.slice none 0 0,.slice none 0 0,.int .i64 0]):=hbN.blk HKA.out (HP.out.apart HKA.out (by decide))
 clear hpN hbN HP HB HKA;have HP:=HP2; have HB:=HB2; have HKA:=HKA2;clear HP2 HB2 HKA2
 cases qb with
 | false=>
  have HF:=zH (fail_any 18 t r P w1 HP.out)
  have HRE:Hid (R=.error (t.at_,18)):=HRT.out
  clear HRT;go_wp2_with fail;refine HF.out.mono ?_;rintro e w2 ⟨rfl,hb⟩;have HB2:=zH (HB.out.trans hb);clear hb HF;go_wp2_with fail;exact ⟨rfl,PaR.bad HRE.out HB2.out⟩
 | true=>
 have HRT2:=zH (HRT.out.trans (if_neg (by decide)))
 clear HRT;have HRT:=HRT2;clear HRT2;have HNW:=zH (now_any t r P w1 HP.out);unfold tkV at HNW;have hf2:=tk_f2 t.kind t.at_ ⟨t.text.toArray⟩;go_wp2_with fail;refine HNW.out.mono ?_;rintro e w2 ⟨rfl,hbw⟩;have hbN:But P w1 w2:=But.of_below hbw;have hpN:=HP.out.below hbw;clear HNW hbw;have HP2:=zH hpN;have HB2:=zH (HB.out.trans hbN)
 have HKA2:Hid (Blk w2 A 31 #[.int .i64 0,.string ⟨#[]⟩,.int .i64 0,.slice none 0 0,.slice none 0 0,.int .i64 0]):=hbN.blk HKA.out (HP.out.apart HKA.out (by decide))
 clear hpN hbN HP HB HKA;have HP:=HP2; have HB:=HB2; have HKA:=HKA2;clear HP2 HB2 HKA2;obtain ⟨ux,rx,hl⟩:=HP.out.ends.cons;have hbb:=(Below.refl w2.heap.size w2).alloc (Nat.le_refl _) (.cells #[.string ⟨#[108,101,116]⟩] 9);have HBB:=zH hbb
 have his:Calls Tryz.prog 52 #[.pointer (some ⟨P,0,none⟩),.slice (some ⟨w2.heap.size,0,none⟩) 1 1] (w2.alloc (.cells #[.string ⟨#[108,101,116]⟩] 9)) fun e w'=>e=.returned (.bool (isT (bytes [108,101,116]) (ux::rx)))∧Below (w2.alloc (.cells #[.string ⟨#[108,101,116]⟩] 9)).heap.size (w2.alloc (.cells #[.string ⟨#[108,101,116]⟩] 9)) w':=is_one (bytes [108,101,116]) _ ux rx P _ (by rw [← hl]; exact HP.out.below hbb) (Blk.new w2 9 #[.string ⟨#[108,101,116]⟩])
 rw [← hl] at his;obtain ⟨ql,hq⟩:∃q,isT (bytes [108,101,116]) (t::r)=q:=⟨_,rfl⟩;rw [hq] at his;have HIS:=zH his;have HQql:=zH hq;clear hbb hq his hl;go_wp2_with fail;generalize w2.alloc (.cells #[.string ⟨#[108,101,116]⟩] 9)=wb at*;refine HIS.out.mono ?_;rintro e w3 ⟨rfl,hb2⟩;have hbw:=HBB.out.trans (hb2.mono HBB.out.size);have hbN:But P w2 w3:=But.of_below hbw;have hpN:=HP.out.below hbw
 clear hb2 HBB HIS hbw;have HP2:=zH hpN;have HB2:=zH (HB.out.trans hbN);have HKA2:Hid (Blk w3 A 31 #[.int .i64 0,.string ⟨#[]⟩,.int .i64 0,.slice none 0 0,.slice none 0 0,.int .i64 0]):=hbN.blk HKA.out (HP.out.apart HKA.out (by decide))
 clear hpN hbN HP HB HKA;have HP:=HP2; have HB:=HB2; have HKA:=HKA2;clear HP2 HB2 HKA2
 cases ql with
 | true=>
  have HRT2:=zH (HRT.out.trans (if_pos HQql.out))
  clear HRT;have HRT:=HRT2;clear HRT2;obtain ⟨ux,rx,hl⟩:=HP.out.ends.cons;have hkx:ux.kind≠0:=isT_kind (s:=bytes [108,101,116]) (r:=rx) (by rw [← hl]; exact HQql.out)
  have htk:=take_any ux rx P w3 (by rw [← hl]; exact HP.out) hkx
  have htl:rx=(t::r).tail:=by rw [hl]; rfl
  rw [htl] at htk;have HTK:=zH htk;have HLT:Hid ((t::r).tail.length < (t::r).length):=by show _ < _; rw [hl]; simp
  unfold tkV at HTK;clear htk htl hkx hl;go_wp2_with fail;refine HTK.out.mono ?_;rintro e wt ⟨rfl,hpN,hbN⟩;clear HTK;have HP2:=zH hpN;have HB2:=zH (HB.out.trans hbN);have HKA2:Hid (Blk wt A 31 #[.int .i64 0,.string ⟨#[]⟩,.int .i64 0,.slice none 0 0,.slice none 0 0,.int .i64 0]):=hbN.blk HKA.out (HP.out.apart HKA.out (by decide))
  clear hpN hbN HP HB HKA;have HP:=HP2; have HB:=HB2; have HKA:=HKA2;clear HP2 HB2 HKA2;have HCC:=zH (HAS.out 20 t.at_ P r wt HP.out);rw [← HRT.out] at HCC;go_wp2_with fail;refine HCC.out.mono ?_;intro e wR h;obtain ⟨hb,h⟩:=h;have HBR2:=zH (HB.out.trans hb)
  cases hRR:R with
  | error x=>
   rw [hRR] at h;obtain rfl:=h;have HRR:=zH hRR;clear hRR hb HCC HRT;go_wp2_with fail;exact ⟨rfl,PaR.bad HRR.out HBR2.out⟩
  | ok y=>
   obtain ⟨x,l2⟩:=y
   rw [hRR] at h;obtain ⟨⟨T,rfl,hT⟩,hp2⟩:=h;have HRR:=zH hRR;have HT:=zH hT;have HP2:=zH hp2;have HK1:=zH (hb.blk HKA.out (HP.out.apart HKA.out (by decide)))
   have HAL:Hid (A < wt.heap.size):=HKA.out.lt
   clear hRR hb HCC hT hp2 HRT;go_wp2_with ((with_reducible show wpList _ _ _ (⟨_,Op.store _ _ _,_,_,_,_⟩::_) _ _); refine wpList_store_rowTo rfl 31 (.tmp 4) (.tmp 30) rfl rfl A T (by rfl) (by rfl) 31 _ (by exact HK1.out) (by exact HT.out.inf) (by exact HT.out.size.symm) (by exact HT.out.one) ?_)
   refine bodyPost_ret (results_cell_row rfl _ _ A 31 _ (0,0) _ rfl (HK1.out.rset T) Tryz.underlying31 rfl HT.out.inf) rfl (PaR.good HRR.out ?_ ⟨T,rfl,?_⟩ ?_)
   ·exact HBR2.out.rset_new (Nat.le_of_eq HWA.out) T
   ·refine HT.out.sub (MSub.csub fun k hk hS=>?_)
    have h1:=HAL.out
    have h2:=HWA.out
    simp only [frS,decide_eq_true_eq] at hS ⊢;exact ⟨by omega,heap_rset_ne wR A k T (by omega)⟩
   ·exact HP2.out.rset hlt.out T
 | false=>
 have HRT2:=zH (HRT.out.trans (if_neg (by rw [HQql.out]; decide)))
 clear HRT;have HRT:=HRT2;clear HRT2;obtain ⟨ux,rx,hl⟩:=HP.out.ends.cons;have hbb:=(Below.refl w3.heap.size w3).alloc (Nat.le_refl _) (.cells #[.string ⟨#[105,102]⟩] 9);have HBB:=zH hbb
 have his:Calls Tryz.prog 52 #[.pointer (some ⟨P,0,none⟩),.slice (some ⟨w3.heap.size,0,none⟩) 1 1] (w3.alloc (.cells #[.string ⟨#[105,102]⟩] 9)) fun e w'=>e=.returned (.bool (isT (bytes [105,102]) (ux::rx)))∧Below (w3.alloc (.cells #[.string ⟨#[105,102]⟩] 9)).heap.size (w3.alloc (.cells #[.string ⟨#[105,102]⟩] 9)) w':=is_one (bytes [105,102]) _ ux rx P _ (by rw [← hl]; exact HP.out.below hbb) (Blk.new w3 9 #[.string ⟨#[105,102]⟩])
 rw [← hl] at his;obtain ⟨qi,hq⟩:∃q,isT (bytes [105,102]) (t::r)=q:=⟨_,rfl⟩;rw [hq] at his;have HIS:=zH his;have HQqi:=zH hq;clear hbb hq his hl;go_wp2_with fail;generalize w3.alloc (.cells #[.string ⟨#[105,102]⟩] 9)=wb at*;refine HIS.out.mono ?_;rintro e w4 ⟨rfl,hb2⟩;have hbw:=HBB.out.trans (hb2.mono HBB.out.size);have hbN:But P w3 w4:=But.of_below hbw;have hpN:=HP.out.below hbw
 clear hb2 HBB HIS hbw;have HP2:=zH hpN;have HB2:=zH (HB.out.trans hbN);have HKA2:Hid (Blk w4 A 31 #[.int .i64 0,.string ⟨#[]⟩,.int .i64 0,.slice none 0 0,.slice none 0 0,.int .i64 0]):=hbN.blk HKA.out (HP.out.apart HKA.out (by decide))
 clear hpN hbN HP HB HKA;have HP:=HP2; have HB:=HB2; have HKA:=HKA2;clear HP2 HB2 HKA2
 cases qi with
 | true=>
  have HRT2:=zH (HRT.out.trans (if_pos HQqi.out))
  clear HRT;have HRT:=HRT2;clear HRT2;have HCC:=zH (HBR.out P (t::r) w4 HP.out);rw [← HRT.out] at HCC;go_wp2_with fail;refine HCC.out.mono ?_;intro e wR h;obtain ⟨hb,h⟩:=h;have HBR2:=zH (HB.out.trans hb)
  cases hRR:R with
  | error x=>
   rw [hRR] at h;obtain rfl:=h;have HRR:=zH hRR;clear hRR hb HCC HRT;go_wp2_with fail;exact ⟨rfl,PaR.bad HRR.out HBR2.out⟩
  | ok y=>
   obtain ⟨x,l2⟩:=y
   rw [hRR] at h;obtain ⟨⟨T,rfl,hT⟩,hp2⟩:=h;have HRR:=zH hRR;have HT:=zH hT;have HP2:=zH hp2;have HK1:=zH (hb.blk HKA.out (HP.out.apart HKA.out (by decide)))
   have HAL:Hid (A < w4.heap.size):=HKA.out.lt
   clear hRR hb HCC hT hp2 HRT;go_wp2_with ((with_reducible show wpList _ _ _ (⟨_,Op.store _ _ _,_,_,_,_⟩::_) _ _); refine wpList_store_rowTo rfl 31 (.tmp 4) (.tmp 37) rfl rfl A T (by rfl) (by rfl) 31 _ (by exact HK1.out) (by exact HT.out.inf) (by exact HT.out.size.symm) (by exact HT.out.one) ?_)
   refine bodyPost_ret (results_cell_row rfl _ _ A 31 _ (0,0) _ rfl (HK1.out.rset T) Tryz.underlying31 rfl HT.out.inf) rfl (PaR.good HRR.out ?_ ⟨T,rfl,?_⟩ ?_)
   ·exact HBR2.out.rset_new (Nat.le_of_eq HWA.out) T
   ·refine HT.out.sub (MSub.csub fun k hk hS=>?_)
    have h1:=HAL.out
    have h2:=HWA.out
    simp only [frS,decide_eq_true_eq] at hS ⊢;exact ⟨by omega,heap_rset_ne wR A k T (by omega)⟩
   ·exact HP2.out.rset hlt.out T
 | false=>
 have HRT2:=zH (HRT.out.trans (if_neg (by rw [HQqi.out]; decide)))
 clear HRT;have HRT:=HRT2;clear HRT2;obtain ⟨ux,rx,hl⟩:=HP.out.ends.cons;have hbb:=(Below.refl w4.heap.size w4).alloc (Nat.le_refl _) (.cells #[.string ⟨#[119,104,105,108,101]⟩] 9);have HBB:=zH hbb
 have his:Calls Tryz.prog 52 #[.pointer (some ⟨P,0,none⟩),.slice (some ⟨w4.heap.size,0,none⟩) 1 1] (w4.alloc (.cells #[.string ⟨#[119,104,105,108,101]⟩] 9)) fun e w'=>e=.returned (.bool (isT (bytes [119,104,105,108,101]) (ux::rx)))∧Below (w4.alloc (.cells #[.string ⟨#[119,104,105,108,101]⟩] 9)).heap.size (w4.alloc (.cells #[.string ⟨#[119,104,105,108,101]⟩] 9)) w':=is_one (bytes [119,104,105,108,101]) _ ux rx P _ (by rw [← hl]; exact HP.out.below hbb) (Blk.new w4 9 #[.string ⟨#[119,104,105,108,101]⟩])
 rw [← hl] at his;obtain ⟨qw,hq⟩:∃q,isT (bytes [119,104,105,108,101]) (t::r)=q:=⟨_,rfl⟩;rw [hq] at his;have HIS:=zH his;have HQqw:=zH hq;clear hbb hq his hl;go_wp2_with fail;generalize w4.alloc (.cells #[.string ⟨#[119,104,105,108,101]⟩] 9)=wb at*;refine HIS.out.mono ?_;rintro e w5 ⟨rfl,hb2⟩;have hbw:=HBB.out.trans (hb2.mono HBB.out.size);have hbN:But P w4 w5:=But.of_below hbw
 have hpN:=HP.out.below hbw
 clear hb2 HBB HIS hbw;have HP2:=zH hpN;have HB2:=zH (HB.out.trans hbN);have HKA2:Hid (Blk w5 A 31 #[.int .i64 0,.string ⟨#[]⟩,.int .i64 0,.slice none 0 0,.slice none 0 0,.int .i64 0]):=hbN.blk HKA.out (HP.out.apart HKA.out (by decide))
 clear hpN hbN HP HB HKA;have HP:=HP2; have HB:=HB2; have HKA:=HKA2;clear HP2 HB2 HKA2
 cases qw with
 | true=>
  have HRT2:=zH (HRT.out.trans (if_pos HQqw.out))
  clear HRT;have HRT:=HRT2;clear HRT2;obtain ⟨ux,rx,hl⟩:=HP.out.ends.cons;have hkx:ux.kind≠0:=isT_kind (s:=bytes [119,104,105,108,101]) (r:=rx) (by rw [← hl]; exact HQqw.out)
  have htk:=take_any ux rx P w5 (by rw [← hl]; exact HP.out) hkx
  have htl:rx=(t::r).tail:=by rw [hl]; rfl
  rw [htl] at htk;have HTK:=zH htk;have HLT:Hid ((t::r).tail.length < (t::r).length):=by show _ < _; rw [hl]; simp
  unfold tkV at HTK;clear htk htl hkx hl;go_wp2_with fail;refine HTK.out.mono ?_;rintro e wt ⟨rfl,hpN,hbN⟩;clear HTK;have HP2:=zH hpN;have HB2:=zH (HB.out.trans hbN);have HKA2:Hid (Blk wt A 31 #[.int .i64 0,.string ⟨#[]⟩,.int .i64 0,.slice none 0 0,.slice none 0 0,.int .i64 0]):=hbN.blk HKA.out (HP.out.apart HKA.out (by decide))
  clear hpN hbN HP HB HKA;have HP:=HP2; have HB:=HB2; have HKA:=HKA2;clear HP2 HB2 HKA2;have HAL:Hid (A < wt.heap.size):=HKA.out.lt;have HEX:=zH (HEX.out P (t::r).tail wt HP.out);have HSZ_T:=zH (Nat.le_refl wt.heap.size);rcases hq:ex (t::r).tail with y | ⟨x,l2⟩
  ·have HRE:=zH (HRT.out.trans (thenT_err hq))
   rw [hq] at HEX;clear hq HRT;go_wp2_with fail;refine HEX.out.mono ?_;rintro e wE ⟨hbE,rfl⟩;have HBE:=zH (HB.out.trans hbE);clear hbE HEX;go_wp2_with fail;exact ⟨rfl,PaR.bad HRE.out HBE.out⟩
  have HRT2:=zH (HRT.out.trans (thenT_ok hq))
  rw [hq] at HEX;clear hq HRT;have HRT:=HRT2;clear HRT2;go_wp2_with fail;refine HEX.out.mono ?_;rintro e w5x ⟨hbN,⟨T,rfl,hT⟩,hpN⟩;have HT_T:=zH hT;clear HEX hT HSZ_T;have HP2:=zH hpN;have HB2:=zH (HB.out.trans hbN);have HKA2:Hid (Blk w5x A 31 #[.int .i64 0,.string ⟨#[]⟩,.int .i64 0,.slice none 0 0,.slice none 0 0,.int .i64 0]):=hbN.blk HKA.out (HP.out.apart HKA.out (by decide))
  clear hpN hbN HP HB HKA;have HP:=HP2; have HB:=HB2; have HKA:=HKA2;clear HP2 HB2 HKA2;go_upto_region 14 with ((with_reducible show wpList _ _ _ (⟨_,Op.store _ _ _,_,_,_,_⟩::_) _ _); refine wpList_store_rowTo rfl 31 (.tmp 6) (.tmp 47) rfl rfl _ T (by rfl) (by rfl) 31 _ (by exact Blk.new _ _ _) (by exact HT_T.out.inf) (by exact HT_T.out.size.symm) (by exact HT_T.out.one) ?_)
  have HX:=zH ((Blk.new w5x 31 #[.int .i64 0,.string ⟨#[]⟩,.int .i64 0,.slice none 0 0,.slice none 0 0,.int .i64 0]).rset T)
  have HKA2:Hid (Blk ((w5x.alloc (.cells #[.int .i64 0,.string ⟨#[]⟩,.int .i64 0,.slice none 0 0,.slice none 0 0,.int .i64 0] 31)).setRow w5x.heap.size T) A 31 #[.int .i64 0,.string ⟨#[]⟩,.int .i64 0,.slice none 0 0,.slice none 0 0,.int .i64 0]):=(HKA.out.alloc _).rset_ne T (Nat.ne_of_lt HKA.out.lt)
  have HP2:Hid (PsW ((w5x.alloc (.cells #[.int .i64 0,.string ⟨#[]⟩,.int .i64 0,.slice none 0 0,.slice none 0 0,.int .i64 0] 31)).setRow w5x.heap.size T) P l2):=(HP.out.below ((Below.refl w5x.heap.size w5x).alloc (Nat.le_refl _) _)).rset HP.out.lt T
  have HB2:=zH ((HB.out.alloc (.cells #[.int .i64 0,.string ⟨#[]⟩,.int .i64 0,.slice none 0 0,.slice none 0 0,.int .i64 0] 31)).rset_new HB.out.size T)
  have HXA:Hid (A < w5x.heap.size):=HKA.out.lt
  have HTX:Hid (NdV (maskW (fun k=>decide (A < k)&&decide (k≠w5x.heap.size)) ((w5x.alloc (.cells #[.int .i64 0,.string ⟨#[]⟩,.int .i64 0,.slice none 0 0,.slice none 0 0,.int .i64 0] 31)).setRow w5x.heap.size T)) T x):=by
   refine HT_T.out.sub (MSub.csub fun k hk hS=>?_)
   have h1:=HAL.out
   simp only [frS,decide_eq_true_eq] at hS;refine ⟨by simp; omega,?_⟩
   rw [heap_rset_ne _ _ _ _ (by omega)]
   exact Below.heap_alloc _ _ _ hk
  clear HP HB HKA HT_T;have HP:=HP2; have HB:=HB2; have HKA:=HKA2;clear HP2 HB2 HKA2;generalize (w5x.alloc (.cells #[.int .i64 0,.string ⟨#[]⟩,.int .i64 0,.slice none 0 0,.slice none 0 0,.int .i64 0] 31)).setRow w5x.heap.size T=w6x at*;generalize w5x.heap.size=X at*;have HCON:=zH (HBK.out P l2 w6x.drew HP.out.drew);have HPD:Hid (PsW w6x.drew P l2):=HP.out.drew
  have HXD:Hid (Blk w6x.drew X 31 T):=HX.out
  have HAD:Hid (Blk w6x.drew A 31 #[.int .i64 0,.string ⟨#[]⟩,.int .i64 0,.slice none 0 0,.slice none 0 0,.int .i64 0]):=HKA.out
  have HBD:Hid (But P w w6x.drew):=HB.out.drew
  have HXL:Hid (X < w6x.drew.heap.size):=HX.out.lt
  have HTD:Hid (NdV (maskW (fun k=>decide (A < k)&&decide (k≠X)) w6x.drew) T x):=HTX.out.sub (MSub.csub (S:=fun k=>decide (A < k)&&decide (k≠X)) (w:=w6x) (S':=fun k=>decide (A < k)&&decide (k≠X)) (w':=w6x.drew) fun _ _ h=>⟨h,rfl⟩)
  clear HP HX HKA HB HTX;refine wp_region_held_drew (S:=fun _=>True) (by kernel_rfl) trivial (fun hS=>?_)
  refine zT 1 hS ?_;try simp only [Act.put,zs1,zs2,zs3]
  refine zT 2 hS ?_;try simp only [Act.put,zs1,zs2,zs3]
  refine zT 3 hS ?_;try simp only [Act.put,zs1,zs2,zs3]
  refine zT 6 hS ?_;try simp only [Act.put,zs1,zs2,zs3]
  refine zF 0 4 (fun K hK=>?saw5) (fun K hK=>?sbw5)
  case saw5=>
   refine pstep_load rfl 31 (.tmp 6) rfl X (by rfl) 31 T (0,0) _ HXD.out Tryz.underlying31 rfl HTD.out.inf ?_
   refine hK.out _ _ trivial (fun _=>?_)
   clear hK K;try simp only [Act.put,zs1,zs2,zs3]
   refine zR 4 fun K hK=>?_
   go_simp;refine HCON.out.mono ?_;intro e w8 h;obtain ⟨hb8,h⟩:=h;have HB8:Hid (But P w w8):=HBD.out.trans hb8;rcases hRR:blkP st l2 with y | ⟨x1,l4⟩
   ·rw [hRR] at h
    obtain rfl:=h
    have HRE:Hid (R=.error y):=by show _=_; rw [HRT.out,hRR]; rfl
    clear hRR hb8 HCON HRT;go_wp2_with fail;exact ⟨rfl,PaR.bad HRE.out HB8.out⟩
   rw [hRR] at h;obtain ⟨⟨U,rfl,hU⟩,hp8⟩:=h;have HRE:Hid (R=.ok ((hdT 23 [] 0 t.at_,x.one.app x1.one),l4)):=by show _=_; rw [HRT.out,hRR]; rfl
   have HU:=zH hU
   have HP8:=zH hp8
   have HX8:Hid (Blk w8 X 31 T):=hb8.blk HXD.out (HPD.out.apart HXD.out (by decide))
   have HA8:Hid (Blk w8 A 31 #[.int .i64 0,.string ⟨#[]⟩,.int .i64 0,.slice none 0 0,.slice none 0 0,.int .i64 0]):=hb8.blk HAD.out (HPD.out.apart HAD.out (by decide))
   have HT8:Hid (NdV (maskW (fun k=>decide (A < k)&&decide (k≠X)) w8) T x):=HTD.out.sub (MSub.csub fun k hk hS=>⟨hS,hb8.block k hk (by have:=hlt.out; simp at hS; omega)⟩)
   have HU8:Hid (NdV (maskW (fun k=>decide (A < k)&&decide (k≠X)) w8) U x1):=HU.out.sub (MSub.csub fun k hk hS=>⟨by have h1:=HXL.out; have h2:=HXA.out; simp only [frS,decide_eq_true_eq] at hS; simp; omega,rfl⟩)
   clear hRR hb8 HCON HRT hU hp8;refine hK.out _ _ trivial (fun _=>?_)
   clear hK K;try simp only [Act.put,zs1,zs2,zs3]
   refine zR 5 fun K hK=>?_
   refine pstep_two el_syn rfl rfl HT8.out.size HU8.out.size (by rfl) (by rfl) ?_
   refine hK.out _ _ trivial (fun _=>?_)
   clear hK K;try simp only [Act.put,zs1,zs2,zs3]
   refine zT 7 hS ?_;try simp only [Act.put,zs1,zs2,zs3]
   refine zR 8 fun K hK=>?_
   refine pstep_store rfl 31 (.tmp 4) (.tmp 55) rfl rfl A #[.int .i64 23,.string ⟨#[]⟩,.int .i64 0,.slice none 0 0,.slice (some ⟨w8.heap.size,0,none⟩) 2 2,.int .i64 t.at_] (by rfl) (by rfl) 31 _ (HA8.out.alloc _) syn_info rfl (by simp [Value.oneCell']) ?_
   refine hK.out _ _ trivial (fun _=>?_)
   clear hK K;try simp only [Act.put,zs1,zs2,zs3]
   refine wpAnyH_done (by kernel_rfl) ?_ _
   go_wp2_with fail;have hA8:A < w8.heap.size:=HA8.out.lt;have hX8:X < w8.heap.size:=HX8.out.lt;refine bodyPost_ret (results_cell_row rfl _ _ A 31 _ (0,0) _ rfl ((HA8.out.alloc (.cells (T++U) 31)).rset #[.int .i64 23,.string ⟨#[]⟩,.int .i64 0,.slice none 0 0,.slice (some ⟨w8.heap.size,0,none⟩) 2 2,.int .i64 t.at_]) Tryz.underlying31 rfl syn_info) rfl (PaR.good HRE.out ?_ ⟨_,rfl,?_⟩ ?_)
   ·exact (HB8.out.alloc _).rset_new (Nat.le_of_eq HWA.out) _
   ·have h3:=HWA.out
    have hm:∀k,k < w8.heap.size→(decide (A < k)&&decide (k≠X))=true→frS w.heap.size k=true∧((w8.alloc (.cells (T++U) 31)).setRow A #[.int .i64 23,.string ⟨#[]⟩,.int .i64 0,.slice none 0 0,.slice (some ⟨w8.heap.size,0,none⟩) 2 2,.int .i64 t.at_]).heap[k]?=w8.heap[k]?:=by
     intro k hk hS;simp only [Bool.and_eq_true,decide_eq_true_eq] at hS;refine ⟨by simp only [frS,decide_eq_true_eq]; omega,?_⟩
     rw [heap_rset_ne _ _ _ _ (by omega)]
     exact Below.heap_alloc _ _ _ hk
    exact ndv_mk (hdT 23 [] 0 t.at_) (x.one.app x1.one) rfl rfl (nmrow_nil _) (frow_blk (F:=x.one.app x1.one) ((Blk.new w8 31 (T++U)).rset_ne _ (Nat.ne_of_gt hA8)) (by simp only [frS,decide_eq_true_eq]; omega) (FCl.two (HT8.out.sub (MSub.csub hm)) (HU8.out.sub (MSub.csub hm))) (by show 2≤100; decide))
   ·exact (HP8.out.below ((Below.refl w8.heap.size w8).alloc (Nat.le_refl _) _)).rset hlt.out _
  case sbw5=>
   go_simp;refine HCON.out.mono ?_;intro e w8 h;obtain ⟨hb8,h⟩:=h;have HB8:Hid (But P w w8):=HBD.out.trans hb8;rcases hRR:blkP st l2 with y | ⟨x1,l4⟩
   ·rw [hRR] at h
    obtain rfl:=h
    have HRE:Hid (R=.error y):=by show _=_; rw [HRT.out,hRR]; rfl
    clear hRR hb8 HCON HRT;go_wp2_with fail;exact ⟨rfl,PaR.bad HRE.out HB8.out⟩
   rw [hRR] at h;obtain ⟨⟨U,rfl,hU⟩,hp8⟩:=h;have HRE:Hid (R=.ok ((hdT 23 [] 0 t.at_,x.one.app x1.one),l4)):=by show _=_; rw [HRT.out,hRR]; rfl
   have HU:=zH hU
   have HP8:=zH hp8
   have HX8:Hid (Blk w8 X 31 T):=hb8.blk HXD.out (HPD.out.apart HXD.out (by decide))
   have HA8:Hid (Blk w8 A 31 #[.int .i64 0,.string ⟨#[]⟩,.int .i64 0,.slice none 0 0,.slice none 0 0,.int .i64 0]):=hb8.blk HAD.out (HPD.out.apart HAD.out (by decide))
   have HT8:Hid (NdV (maskW (fun k=>decide (A < k)&&decide (k≠X)) w8) T x):=HTD.out.sub (MSub.csub fun k hk hS=>⟨hS,hb8.block k hk (by have:=hlt.out; simp at hS; omega)⟩)
   have HU8:Hid (NdV (maskW (fun k=>decide (A < k)&&decide (k≠X)) w8) U x1):=HU.out.sub (MSub.csub fun k hk hS=>⟨by have h1:=HXL.out; have h2:=HXA.out; simp only [frS,decide_eq_true_eq] at hS; simp; omega,rfl⟩)
   clear hRR hb8 HCON HRT hU hp8;refine hK.out _ _ trivial (fun _=>?_)
   clear hK K;try simp only [Act.put,zs1,zs2,zs3]
   refine zR 0 fun K hK=>?_
   refine pstep_load rfl 31 (.tmp 6) rfl X (by rfl) 31 T (0,0) _ HX8.out Tryz.underlying31 rfl HTD.out.inf ?_
   refine hK.out _ _ trivial (fun _=>?_)
   clear hK K;try simp only [Act.put,zs1,zs2,zs3]
   refine zR 5 fun K hK=>?_
   refine pstep_two el_syn rfl rfl HT8.out.size HU8.out.size (by rfl) (by rfl) ?_
   refine hK.out _ _ trivial (fun _=>?_)
   clear hK K;try simp only [Act.put,zs1,zs2,zs3]
   refine zT 7 hS ?_;try simp only [Act.put,zs1,zs2,zs3]
   refine zR 8 fun K hK=>?_
   refine pstep_store rfl 31 (.tmp 4) (.tmp 55) rfl rfl A #[.int .i64 23,.string ⟨#[]⟩,.int .i64 0,.slice none 0 0,.slice (some ⟨w8.heap.size,0,none⟩) 2 2,.int .i64 t.at_] (by rfl) (by rfl) 31 _ (HA8.out.alloc _) syn_info rfl (by simp [Value.oneCell']) ?_
   refine hK.out _ _ trivial (fun _=>?_)
   clear hK K;try simp only [Act.put,zs1,zs2,zs3]
   refine wpAnyH_done (by kernel_rfl) ?_ _
   go_wp2_with fail;have hA8:A < w8.heap.size:=HA8.out.lt;have hX8:X < w8.heap.size:=HX8.out.lt;refine bodyPost_ret (results_cell_row rfl _ _ A 31 _ (0,0) _ rfl ((HA8.out.alloc (.cells (T++U) 31)).rset #[.int .i64 23,.string ⟨#[]⟩,.int .i64 0,.slice none 0 0,.slice (some ⟨w8.heap.size,0,none⟩) 2 2,.int .i64 t.at_]) Tryz.underlying31 rfl syn_info) rfl (PaR.good HRE.out ?_ ⟨_,rfl,?_⟩ ?_)
   ·exact (HB8.out.alloc _).rset_new (Nat.le_of_eq HWA.out) _
   ·have h3:=HWA.out
    have hm:∀k,k < w8.heap.size→(decide (A < k)&&decide (k≠X))=true→frS w.heap.size k=true∧((w8.alloc (.cells (T++U) 31)).setRow A #[.int .i64 23,.string ⟨#[]⟩,.int .i64 0,.slice none 0 0,.slice (some ⟨w8.heap.size,0,none⟩) 2 2,.int .i64 t.at_]).heap[k]?=w8.heap[k]?:=by
     intro k hk hS;simp only [Bool.and_eq_true,decide_eq_true_eq] at hS;refine ⟨by simp only [frS,decide_eq_true_eq]; omega,?_⟩
     rw [heap_rset_ne _ _ _ _ (by omega)]
     exact Below.heap_alloc _ _ _ hk
    exact ndv_mk (hdT 23 [] 0 t.at_) (x.one.app x1.one) rfl rfl (nmrow_nil _) (frow_blk (F:=x.one.app x1.one) ((Blk.new w8 31 (T++U)).rset_ne _ (Nat.ne_of_gt hA8)) (by simp only [frS,decide_eq_true_eq]; omega) (FCl.two (HT8.out.sub (MSub.csub hm)) (HU8.out.sub (MSub.csub hm))) (by show 2≤100; decide))
   ·exact (HP8.out.below ((Below.refl w8.heap.size w8).alloc (Nat.le_refl _) _)).rset hlt.out _
 | false=>
 have HRT2:=zH (HRT.out.trans (if_neg (by rw [HQqw.out]; decide)))
 clear HRT;have HRT:=HRT2;clear HRT2;obtain ⟨ux,rx,hl⟩:=HP.out.ends.cons;have hbb:=(Below.refl w5.heap.size w5).alloc (Nat.le_refl _) (.cells #[.string ⟨#[102,111,114]⟩] 9);have HBB:=zH hbb
 have his:Calls Tryz.prog 52 #[.pointer (some ⟨P,0,none⟩),.slice (some ⟨w5.heap.size,0,none⟩) 1 1] (w5.alloc (.cells #[.string ⟨#[102,111,114]⟩] 9)) fun e w'=>e=.returned (.bool (isT (bytes [102,111,114]) (ux::rx)))∧Below (w5.alloc (.cells #[.string ⟨#[102,111,114]⟩] 9)).heap.size (w5.alloc (.cells #[.string ⟨#[102,111,114]⟩] 9)) w':=is_one (bytes [102,111,114]) _ ux rx P _ (by rw [← hl]; exact HP.out.below hbb) (Blk.new w5 9 #[.string ⟨#[102,111,114]⟩])
 rw [← hl] at his;obtain ⟨qf,hq⟩:∃q,isT (bytes [102,111,114]) (t::r)=q:=⟨_,rfl⟩;rw [hq] at his;have HIS:=zH his;have HQqf:=zH hq;clear hbb hq his hl;go_wp2_with fail;generalize w5.alloc (.cells #[.string ⟨#[102,111,114]⟩] 9)=wb at*;refine HIS.out.mono ?_;rintro e w6 ⟨rfl,hb2⟩;have hbw:=HBB.out.trans (hb2.mono HBB.out.size);have hbN:But P w5 w6:=But.of_below hbw;have hpN:=HP.out.below hbw
 clear hb2 HBB HIS hbw;have HP2:=zH hpN;have HB2:=zH (HB.out.trans hbN);have HKA2:Hid (Blk w6 A 31 #[.int .i64 0,.string ⟨#[]⟩,.int .i64 0,.slice none 0 0,.slice none 0 0,.int .i64 0]):=hbN.blk HKA.out (HP.out.apart HKA.out (by decide))
 clear hpN hbN HP HB HKA;have HP:=HP2; have HB:=HB2; have HKA:=HKA2;clear HP2 HB2 HKA2
 cases qf with
 | true=>
  have HRT2:=zH (HRT.out.trans (if_pos HQqf.out))
  clear HRT;have HRT:=HRT2;clear HRT2;have HCC:=zH (HFO.out P (t::r) w6 HP.out);rw [← HRT.out] at HCC;go_wp2_with fail;refine HCC.out.mono ?_;intro e wR h;obtain ⟨hb,h⟩:=h;have HBR2:=zH (HB.out.trans hb)
  cases hRR:R with
  | error x=>
   rw [hRR] at h;obtain rfl:=h;have HRR:=zH hRR;clear hRR hb HCC HRT;go_wp2_with fail;exact ⟨rfl,PaR.bad HRR.out HBR2.out⟩
  | ok y=>
   obtain ⟨x,l2⟩:=y
   rw [hRR] at h;obtain ⟨⟨T,rfl,hT⟩,hp2⟩:=h;have HRR:=zH hRR;have HT:=zH hT;have HP2:=zH hp2;have HK1:=zH (hb.blk HKA.out (HP.out.apart HKA.out (by decide)))
   have HAL:Hid (A < w6.heap.size):=HKA.out.lt
   clear hRR hb HCC hT hp2 HRT;go_wp2_with ((with_reducible show wpList _ _ _ (⟨_,Op.store _ _ _,_,_,_,_⟩::_) _ _); refine wpList_store_rowTo rfl 31 (.tmp 4) (.tmp 62) rfl rfl A T (by rfl) (by rfl) 31 _ (by exact HK1.out) (by exact HT.out.inf) (by exact HT.out.size.symm) (by exact HT.out.one) ?_)
   refine bodyPost_ret (results_cell_row rfl _ _ A 31 _ (0,0) _ rfl (HK1.out.rset T) Tryz.underlying31 rfl HT.out.inf) rfl (PaR.good HRR.out ?_ ⟨T,rfl,?_⟩ ?_)
   ·exact HBR2.out.rset_new (Nat.le_of_eq HWA.out) T
   ·refine HT.out.sub (MSub.csub fun k hk hS=>?_)
    have h1:=HAL.out
    have h2:=HWA.out
    simp only [frS,decide_eq_true_eq] at hS ⊢;exact ⟨by omega,heap_rset_ne wR A k T (by omega)⟩
   ·exact HP2.out.rset hlt.out T
 | false=>
 have HRT2:=zH (HRT.out.trans (if_neg (by rw [HQqf.out]; decide)))
 clear HRT;have HRT:=HRT2;clear HRT2;obtain ⟨ux,rx,hl⟩:=HP.out.ends.cons;have hbb:=(Below.refl w6.heap.size w6).alloc (Nat.le_refl _) (.cells #[.string ⟨#[102,110]⟩] 9);have HBB:=zH hbb
 have his:Calls Tryz.prog 52 #[.pointer (some ⟨P,0,none⟩),.slice (some ⟨w6.heap.size,0,none⟩) 1 1] (w6.alloc (.cells #[.string ⟨#[102,110]⟩] 9)) fun e w'=>e=.returned (.bool (isT (bytes [102,110]) (ux::rx)))∧Below (w6.alloc (.cells #[.string ⟨#[102,110]⟩] 9)).heap.size (w6.alloc (.cells #[.string ⟨#[102,110]⟩] 9)) w':=is_one (bytes [102,110]) _ ux rx P _ (by rw [← hl]; exact HP.out.below hbb) (Blk.new w6 9 #[.string ⟨#[102,110]⟩])
 rw [← hl] at his;obtain ⟨qn,hq⟩:∃q,isT (bytes [102,110]) (t::r)=q:=⟨_,rfl⟩;rw [hq] at his;have HIS:=zH his;have HQqn:=zH hq;clear hbb hq his hl;go_wp2_with fail;generalize w6.alloc (.cells #[.string ⟨#[102,110]⟩] 9)=wb at*;refine HIS.out.mono ?_;rintro e w7 ⟨rfl,hb2⟩;have hbw:=HBB.out.trans (hb2.mono HBB.out.size);have hbN:But P w6 w7:=But.of_below hbw;have hpN:=HP.out.below hbw
 clear hb2 HBB HIS hbw;have HP2:=zH hpN;have HB2:=zH (HB.out.trans hbN);have HKA2:Hid (Blk w7 A 31 #[.int .i64 0,.string ⟨#[]⟩,.int .i64 0,.slice none 0 0,.slice none 0 0,.int .i64 0]):=hbN.blk HKA.out (HP.out.apart HKA.out (by decide))
 clear hpN hbN HP HB HKA;have HP:=HP2; have HB:=HB2; have HKA:=HKA2;clear HP2 HB2 HKA2
 cases qn with
 | true=>
  have HRT2:=zH (HRT.out.trans (if_pos HQqn.out))
  clear HRT;have HRT:=HRT2;clear HRT2;have HCC:=zH (HFN.out P (t::r) w7 HP.out);rw [← HRT.out] at HCC;go_wp2_with fail;refine HCC.out.mono ?_;intro e wR h;obtain ⟨hb,h⟩:=h;have HBR2:=zH (HB.out.trans hb)
  cases hRR:R with
  | error x=>
   rw [hRR] at h;obtain rfl:=h;have HRR:=zH hRR;clear hRR hb HCC HRT;go_wp2_with fail;exact ⟨rfl,PaR.bad HRR.out HBR2.out⟩
  | ok y=>
   obtain ⟨x,l2⟩:=y
   rw [hRR] at h;obtain ⟨⟨T,rfl,hT⟩,hp2⟩:=h;have HRR:=zH hRR;have HT:=zH hT;have HP2:=zH hp2;have HK1:=zH (hb.blk HKA.out (HP.out.apart HKA.out (by decide)))
   have HAL:Hid (A < w7.heap.size):=HKA.out.lt
   clear hRR hb HCC hT hp2 HRT;go_wp2_with ((with_reducible show wpList _ _ _ (⟨_,Op.store _ _ _,_,_,_,_⟩::_) _ _); refine wpList_store_rowTo rfl 31 (.tmp 4) (.tmp 69) rfl rfl A T (by rfl) (by rfl) 31 _ (by exact HK1.out) (by exact HT.out.inf) (by exact HT.out.size.symm) (by exact HT.out.one) ?_)
   refine bodyPost_ret (results_cell_row rfl _ _ A 31 _ (0,0) _ rfl (HK1.out.rset T) Tryz.underlying31 rfl HT.out.inf) rfl (PaR.good HRR.out ?_ ⟨T,rfl,?_⟩ ?_)
   ·exact HBR2.out.rset_new (Nat.le_of_eq HWA.out) T
   ·refine HT.out.sub (MSub.csub fun k hk hS=>?_)
    have h1:=HAL.out
    have h2:=HWA.out
    simp only [frS,decide_eq_true_eq] at hS ⊢;exact ⟨by omega,heap_rset_ne wR A k T (by omega)⟩
   ·exact HP2.out.rset hlt.out T
 | false=>
 have HRT2:=zH (HRT.out.trans (if_neg (by rw [HQqn.out]; decide)))
 clear HRT;have HRT:=HRT2;clear HRT2;obtain ⟨ux,rx,hl⟩:=HP.out.ends.cons;have hbb:=(Below.refl w7.heap.size w7).alloc (Nat.le_refl _) (.cells #[.string ⟨#[123]⟩] 9);have HBB:=zH hbb
 have his:Calls Tryz.prog 52 #[.pointer (some ⟨P,0,none⟩),.slice (some ⟨w7.heap.size,0,none⟩) 1 1] (w7.alloc (.cells #[.string ⟨#[123]⟩] 9)) fun e w'=>e=.returned (.bool (isT (bytes [123]) (ux::rx)))∧Below (w7.alloc (.cells #[.string ⟨#[123]⟩] 9)).heap.size (w7.alloc (.cells #[.string ⟨#[123]⟩] 9)) w':=is_one (bytes [123]) _ ux rx P _ (by rw [← hl]; exact HP.out.below hbb) (Blk.new w7 9 #[.string ⟨#[123]⟩])
 rw [← hl] at his;obtain ⟨qk,hq⟩:∃q,isT (bytes [123]) (t::r)=q:=⟨_,rfl⟩;rw [hq] at his;have HIS:=zH his;have HQqk:=zH hq;clear hbb hq his hl;go_wp2_with fail;generalize w7.alloc (.cells #[.string ⟨#[123]⟩] 9)=wb at*;refine HIS.out.mono ?_;rintro e w8 ⟨rfl,hb2⟩;have hbw:=HBB.out.trans (hb2.mono HBB.out.size);have hbN:But P w7 w8:=But.of_below hbw;have hpN:=HP.out.below hbw;clear hb2 HBB HIS hbw
 have HP2:=zH hpN
 have HB2:=zH (HB.out.trans hbN)
 have HKA2:Hid (Blk w8 A 31 #[.int .i64 0,.string ⟨#[]⟩,.int .i64 0,.slice none 0 0,.slice none 0 0,.int .i64 0]):=hbN.blk HKA.out (HP.out.apart HKA.out (by decide))
 clear hpN hbN HP HB HKA;have HP:=HP2; have HB:=HB2; have HKA:=HKA2;clear HP2 HB2 HKA2
 cases qk with
 | true=>
  have HRT2:=zH (HRT.out.trans (if_pos HQqk.out))
  clear HRT;have HRT:=HRT2;clear HRT2;have HCC:=zH (HBK.out P (t::r) w8 HP.out);rw [← HRT.out] at HCC;go_wp2_with fail;refine HCC.out.mono ?_;intro e wR h;obtain ⟨hb,h⟩:=h;have HBR2:=zH (HB.out.trans hb)
  cases hRR:R with
  | error x=>
   rw [hRR] at h;obtain rfl:=h;have HRR:=zH hRR;clear hRR hb HCC HRT;go_wp2_with fail;exact ⟨rfl,PaR.bad HRR.out HBR2.out⟩
  | ok y=>
   obtain ⟨x,l2⟩:=y
   rw [hRR] at h;obtain ⟨⟨T,rfl,hT⟩,hp2⟩:=h;have HRR:=zH hRR;have HT:=zH hT;have HP2:=zH hp2;have HK1:=zH (hb.blk HKA.out (HP.out.apart HKA.out (by decide)))
   have HAL:Hid (A < w8.heap.size):=HKA.out.lt
   clear hRR hb HCC hT hp2 HRT;go_wp2_with ((with_reducible show wpList _ _ _ (⟨_,Op.store _ _ _,_,_,_,_⟩::_) _ _); refine wpList_store_rowTo rfl 31 (.tmp 4) (.tmp 77) rfl rfl A T (by rfl) (by rfl) 31 _ (by exact HK1.out) (by exact HT.out.inf) (by exact HT.out.size.symm) (by exact HT.out.one) ?_)
   refine bodyPost_ret (results_cell_row rfl _ _ A 31 _ (0,0) _ rfl (HK1.out.rset T) Tryz.underlying31 rfl HT.out.inf) rfl (PaR.good HRR.out ?_ ⟨T,rfl,?_⟩ ?_)
   ·exact HBR2.out.rset_new (Nat.le_of_eq HWA.out) T
   ·refine HT.out.sub (MSub.csub fun k hk hS=>?_)
    have h1:=HAL.out
    have h2:=HWA.out
    simp only [frS,decide_eq_true_eq] at hS ⊢;exact ⟨by omega,heap_rset_ne wR A k T (by omega)⟩
   ·exact HP2.out.rset hlt.out T
 | false=>
 have HRT2:=zH (HRT.out.trans (if_neg (by rw [HQqk.out]; decide)))
 clear HRT;have HRT:=HRT2;clear HRT2;obtain ⟨ux,rx,hl⟩:=HP.out.ends.cons;have hbb:=(Below.refl w8.heap.size w8).alloc (Nat.le_refl _) (.cells #[.string ⟨#[98,114,101,97,107]⟩] 9);have HBB:=zH hbb
 have his:Calls Tryz.prog 52 #[.pointer (some ⟨P,0,none⟩),.slice (some ⟨w8.heap.size,0,none⟩) 1 1] (w8.alloc (.cells #[.string ⟨#[98,114,101,97,107]⟩] 9)) fun e w'=>e=.returned (.bool (isT (bytes [98,114,101,97,107]) (ux::rx)))∧Below (w8.alloc (.cells #[.string ⟨#[98,114,101,97,107]⟩] 9)).heap.size (w8.alloc (.cells #[.string ⟨#[98,114,101,97,107]⟩] 9)) w':=is_one (bytes [98,114,101,97,107]) _ ux rx P _ (by rw [← hl]; exact HP.out.below hbb) (Blk.new w8 9 #[.string ⟨#[98,114,101,97,107]⟩])
 rw [← hl] at his;obtain ⟨qr,hq⟩:∃q,isT (bytes [98,114,101,97,107]) (t::r)=q:=⟨_,rfl⟩;rw [hq] at his;have HIS:=zH his;have HQqr:=zH hq;clear hbb hq his hl;go_wp2_with fail;generalize w8.alloc (.cells #[.string ⟨#[98,114,101,97,107]⟩] 9)=wb at*;refine HIS.out.mono ?_;rintro e w9 ⟨rfl,hb2⟩;have hbw:=HBB.out.trans (hb2.mono HBB.out.size);have hbN:But P w8 w9:=But.of_below hbw
 have hpN:=HP.out.below hbw
 clear hb2 HBB HIS hbw;have HP2:=zH hpN;have HB2:=zH (HB.out.trans hbN);have HKA2:Hid (Blk w9 A 31 #[.int .i64 0,.string ⟨#[]⟩,.int .i64 0,.slice none 0 0,.slice none 0 0,.int .i64 0]):=hbN.blk HKA.out (HP.out.apart HKA.out (by decide))
 clear hpN hbN HP HB HKA;have HP:=HP2; have HB:=HB2; have HKA:=HKA2;clear HP2 HB2 HKA2
 cases qr with
 | true=>
  have HRT2:=zH (HRT.out.trans (if_pos HQqr.out))
  clear HRT;have HRT:=HRT2;clear HRT2;obtain ⟨ux,rx,hl⟩:=HP.out.ends.cons;have hkx:ux.kind≠0:=isT_kind (s:=bytes [98,114,101,97,107]) (r:=rx) (by rw [← hl]; exact HQqr.out)
  have htk:=take_any ux rx P w9 (by rw [← hl]; exact HP.out) hkx
  have htl:rx=(t::r).tail:=by rw [hl]; rfl
  rw [htl] at htk;have HTK:=zH htk;have HLT:Hid ((t::r).tail.length < (t::r).length):=by show _ < _; rw [hl]; simp
  unfold tkV at HTK;clear htk htl hkx hl;go_wp2_with fail;refine HTK.out.mono ?_;rintro e wt ⟨rfl,hpN,hbN⟩;clear HTK;have HP2:=zH hpN;have HB2:=zH (HB.out.trans hbN);have HKA2:Hid (Blk wt A 31 #[.int .i64 0,.string ⟨#[]⟩,.int .i64 0,.slice none 0 0,.slice none 0 0,.int .i64 0]):=hbN.blk HKA.out (HP.out.apart HKA.out (by decide))
  clear hpN hbN HP HB HKA;have HP:=HP2; have HB:=HB2; have HKA:=HKA2;clear HP2 HB2 HKA2;obtain ⟨ux,rx,hl⟩:=HP.out.ends.cons;have hex:=expect_any (bytes [59]) ux rx P wt (by rw [← hl]; exact HP.out)
  rw [← hl] at hex;have HEX:=zH hex;clear hex hl;rcases hq:expT (bytes [59]) (t::r).tail with y | ⟨v1,l2⟩
  ·have HRE:=zH (HRT.out.trans (thenT_err hq))
   rw [hq] at HEX;clear hq HRT;go_wp2_with fail;refine HEX.out.mono ?_;rintro e wE ⟨hbE,rfl⟩;have HBE:=zH (HB.out.trans hbE);clear hbE HEX;go_wp2_with fail;exact ⟨rfl,PaR.bad HRE.out HBE.out⟩
  have HRT2:=zH (HRT.out.trans (thenT_ok hq))
  have HLE_l2:Hid (l2.length < ((t::r).tail).length):=expT_shr _ _ _ _ hq
  rw [hq] at HEX;clear hq HRT;have HRT:=HRT2;clear HRT2;have hf2:=tk_f2 v1.kind v1.at_ ⟨v1.text.toArray⟩;go_wp2_with fail;refine HEX.out.mono ?_;rintro e wu ⟨hbN,heN,hpN⟩;unfold TkR tkV at heN;subst heN;clear HEX;have HP2:=zH hpN;have HB2:=zH (HB.out.trans hbN)
  have HKA2:Hid (Blk wu A 31 #[.int .i64 0,.string ⟨#[]⟩,.int .i64 0,.slice none 0 0,.slice none 0 0,.int .i64 0]):=hbN.blk HKA.out (HP.out.apart HKA.out (by decide))
  clear hpN hbN HP HB HKA;have HP:=HP2; have HB:=HB2; have HKA:=HKA2;clear HP2 HB2 HKA2;have HRE:Hid (R=.ok ((hdT 29 [] 0 t.at_,.nil),l2)):=HRT.out
  go_wp2_with ((with_reducible show wpList _ _ _ (⟨_,Op.store _ _ _,_,_,_,_⟩::_) _ _); refine wpList_store_rowTo rfl 31 (.tmp 4) (.tmp 87) rfl rfl A #[.int .i64 29,.string ⟨#[]⟩,.int .i64 0,.slice none 0 0,.slice none 0 0,.int .i64 t.at_] (by rfl) (by rfl) 31 _ (by exact HKA.out) (by exact syn_info) (by rfl) (by simp [Value.oneCell']) ?_)
  refine bodyPost_ret (results_cell_row rfl _ _ A 31 _ (0,0) _ rfl (HKA.out.rset #[.int .i64 29,.string ⟨#[]⟩,.int .i64 0,.slice none 0 0,.slice none 0 0,.int .i64 t.at_]) Tryz.underlying31 rfl syn_info) rfl (PaR.good HRE.out ?_ ⟨_,rfl,?_⟩ ?_)
  ·exact HB.out.rset_new (Nat.le_of_eq HWA.out) _
  ·exact ndv_leaf _ _ _ _ _
  ·exact HP.out.rset hlt.out _
 | false=>
 have HRT2:=zH (HRT.out.trans (if_neg (by rw [HQqr.out]; decide)))
 clear HRT;have HRT:=HRT2;clear HRT2;obtain ⟨ux,rx,hl⟩:=HP.out.ends.cons;have hbb:=(Below.refl w9.heap.size w9).alloc (Nat.le_refl _) (.cells #[.string ⟨#[114,101,116,117,114,110]⟩] 9);have HBB:=zH hbb
 have his:Calls Tryz.prog 52 #[.pointer (some ⟨P,0,none⟩),.slice (some ⟨w9.heap.size,0,none⟩) 1 1] (w9.alloc (.cells #[.string ⟨#[114,101,116,117,114,110]⟩] 9)) fun e w'=>e=.returned (.bool (isT (bytes [114,101,116,117,114,110]) (ux::rx)))∧Below (w9.alloc (.cells #[.string ⟨#[114,101,116,117,114,110]⟩] 9)).heap.size (w9.alloc (.cells #[.string ⟨#[114,101,116,117,114,110]⟩] 9)) w':=is_one (bytes [114,101,116,117,114,110]) _ ux rx P _ (by rw [← hl]; exact HP.out.below hbb) (Blk.new w9 9 #[.string ⟨#[114,101,116,117,114,110]⟩])
 rw [← hl] at his;obtain ⟨qt,hq⟩:∃q,isT (bytes [114,101,116,117,114,110]) (t::r)=q:=⟨_,rfl⟩;rw [hq] at his;have HIS:=zH his;have HQqt:=zH hq;clear hbb hq his hl;go_wp2_with fail;generalize w9.alloc (.cells #[.string ⟨#[114,101,116,117,114,110]⟩] 9)=wb at*;refine HIS.out.mono ?_;rintro e w10 ⟨rfl,hb2⟩;have hbw:=HBB.out.trans (hb2.mono HBB.out.size);have hbN:But P w9 w10:=But.of_below hbw
 have hpN:=HP.out.below hbw
 clear hb2 HBB HIS hbw;have HP2:=zH hpN;have HB2:=zH (HB.out.trans hbN);have HKA2:Hid (Blk w10 A 31 #[.int .i64 0,.string ⟨#[]⟩,.int .i64 0,.slice none 0 0,.slice none 0 0,.int .i64 0]):=hbN.blk HKA.out (HP.out.apart HKA.out (by decide))
 clear hpN hbN HP HB HKA;have HP:=HP2; have HB:=HB2; have HKA:=HKA2;clear HP2 HB2 HKA2
 cases qt with
 | true=>
  have HRT2:=zH (HRT.out.trans (if_pos HQqt.out))
  clear HRT;have HRT:=HRT2;clear HRT2;obtain ⟨ux,rx,hl⟩:=HP.out.ends.cons;have hkx:ux.kind≠0:=isT_kind (s:=bytes [114,101,116,117,114,110]) (r:=rx) (by rw [← hl]; exact HQqt.out)
  have htk:=take_any ux rx P w10 (by rw [← hl]; exact HP.out) hkx
  have htl:rx=(t::r).tail:=by rw [hl]; rfl
  rw [htl] at htk;have HTK:=zH htk;have HLT:Hid ((t::r).tail.length < (t::r).length):=by show _ < _; rw [hl]; simp
  unfold tkV at HTK;clear htk htl hkx hl;go_wp2_with fail;refine HTK.out.mono ?_;rintro e wt ⟨rfl,hpN,hbN⟩;clear HTK;have HP2:=zH hpN;have HB2:=zH (HB.out.trans hbN);have HKA2:Hid (Blk wt A 31 #[.int .i64 0,.string ⟨#[]⟩,.int .i64 0,.slice none 0 0,.slice none 0 0,.int .i64 0]):=hbN.blk HKA.out (HP.out.apart HKA.out (by decide))
  clear hpN hbN HP HB HKA;have HP:=HP2; have HB:=HB2; have HKA:=HKA2;clear HP2 HB2 HKA2;go_upto_region 28 with fail
  have HX:=zH (Blk.new wt 31 #[.int .i64 27,.string ⟨#[]⟩,.int .i64 0,.slice none 0 0,.slice none 0 0,.int .i64 t.at_])
  have HKA2:=zH (HKA.out.alloc (.cells #[.int .i64 27,.string ⟨#[]⟩,.int .i64 0,.slice none 0 0,.slice none 0 0,.int .i64 t.at_] 31))
  have HP2:Hid (PsW (wt.alloc (.cells #[.int .i64 27,.string ⟨#[]⟩,.int .i64 0,.slice none 0 0,.slice none 0 0,.int .i64 t.at_] 31)) P _):=HP.out.below ((Below.refl wt.heap.size wt).alloc (Nat.le_refl _) _)
  have HB2:=zH (HB.out.alloc (.cells #[.int .i64 27,.string ⟨#[]⟩,.int .i64 0,.slice none 0 0,.slice none 0 0,.int .i64 t.at_] 31))
  have HXA:=zH HKA.out.lt
  have HXP:Hid (P < wt.heap.size):=HP.out.lt
  clear HP HB HKA;have HP:=HP2; have HB:=HB2; have HKA:=HKA2;clear HP2 HB2 HKA2;generalize wt.alloc (.cells #[.int .i64 27,.string ⟨#[]⟩,.int .i64 0,.slice none 0 0,.slice none 0 0,.int .i64 t.at_] 31)=wu at*;generalize wt.heap.size=X at*;obtain ⟨ux,rx,hl⟩:=HP.out.ends.cons;have hbb:=(Below.refl wu.heap.size wu).alloc (Nat.le_refl _) (.cells #[.string ⟨#[59]⟩] 9);have HBB:=zH hbb
  have his:Calls Tryz.prog 52 #[.pointer (some ⟨P,0,none⟩),.slice (some ⟨wu.heap.size,0,none⟩) 1 1] (wu.alloc (.cells #[.string ⟨#[59]⟩] 9)) fun e w'=>e=.returned (.bool (isT (bytes [59]) (ux::rx)))∧Below (wu.alloc (.cells #[.string ⟨#[59]⟩] 9)).heap.size (wu.alloc (.cells #[.string ⟨#[59]⟩] 9)) w':=is_one (bytes [59]) _ ux rx P _ (by rw [← hl]; exact HP.out.below hbb) (Blk.new wu 9 #[.string ⟨#[59]⟩])
  rw [← hl] at his;obtain ⟨qs,hq⟩:∃q,isT (bytes [59]) ((t::r).tail)=q:=⟨_,rfl⟩;rw [hq] at his;have HIS:=zH his;have HQqs:=zH hq;clear hbb hq his hl;go_wp2_with fail;generalize wu.alloc (.cells #[.string ⟨#[59]⟩] 9)=wb at*;refine HIS.out.mono ?_;rintro e wv ⟨rfl,hb2⟩;have hbw:=HBB.out.trans (hb2.mono HBB.out.size);have hbN:But P wu wv:=But.of_below hbw;have hpN:=HP.out.below hbw
  clear hb2 HBB HIS hbw;have HP2:=zH hpN;have HB2:=zH (HB.out.trans hbN);have HKA2:Hid (Blk wv A 31 #[.int .i64 0,.string ⟨#[]⟩,.int .i64 0,.slice none 0 0,.slice none 0 0,.int .i64 0]):=hbN.blk HKA.out (HP.out.apart HKA.out (by decide))
  have HX2:Hid (Blk wv X 31 #[.int .i64 27,.string ⟨#[]⟩,.int .i64 0,.slice none 0 0,.slice none 0 0,.int .i64 t.at_]):=hbN.blk HX.out (HP.out.apart HX.out (by decide))
  clear hpN hbN HP HB HKA HX;have HP:=HP2; have HB:=HB2; have HKA:=HKA2; have HX:=HX2;clear HP2 HB2 HKA2 HX2
  cases qs with
  | true=>
   have HRT2:Hid (R=thenT (expT (bytes [59]) (t::r).tail) fun _ l2=>.ok ((hdT 27 [] 0 t.at_,.nil),l2)):=by
    show _=_
    obtain ⟨te,hte⟩:=expT_is HQqs.out
    rw [hte];exact HRT.out.trans (if_pos HQqs.out)
   clear HRT;have HRT:=HRT2;clear HRT2;obtain ⟨ux,rx,hl⟩:=HP.out.ends.cons;have hex:=expect_any (bytes [59]) ux rx P wv (by rw [← hl]; exact HP.out)
   rw [← hl] at hex;have HEX:=zH hex;clear hex hl;rcases hq:expT (bytes [59]) (t::r).tail with y | ⟨v1,l2⟩
   ·have HRE:=zH (HRT.out.trans (thenT_err hq))
    rw [hq] at HEX;clear hq HRT;go_wp2_with fail;refine HEX.out.mono ?_;rintro e wE ⟨hbE,rfl⟩;have HBE:=zH (HB.out.trans hbE);clear hbE HEX;go_wp2_with fail;exact ⟨rfl,PaR.bad HRE.out HBE.out⟩
   have HRT2:=zH (HRT.out.trans (thenT_ok hq))
   have HLE_l2:Hid (l2.length < ((t::r).tail).length):=expT_shr _ _ _ _ hq
   rw [hq] at HEX;clear hq HRT;have HRT:=HRT2;clear HRT2;have hf2:=tk_f2 v1.kind v1.at_ ⟨v1.text.toArray⟩;go_wp2_with fail;refine HEX.out.mono ?_;rintro e ww ⟨hbN,heN,hpN⟩;unfold TkR tkV at heN;subst heN;clear HEX;have HP2:=zH hpN;have HB2:=zH (HB.out.trans hbN)
   have HKA2:Hid (Blk ww A 31 #[.int .i64 0,.string ⟨#[]⟩,.int .i64 0,.slice none 0 0,.slice none 0 0,.int .i64 0]):=hbN.blk HKA.out (HP.out.apart HKA.out (by decide))
   have HX2:Hid (Blk ww X 31 #[.int .i64 27,.string ⟨#[]⟩,.int .i64 0,.slice none 0 0,.slice none 0 0,.int .i64 t.at_]):=hbN.blk HX.out (HP.out.apart HX.out (by decide))
   clear hpN hbN HP HB HKA HX;have HP:=HP2; have HB:=HB2; have HKA:=HKA2; have HX:=HX2;clear HP2 HB2 HKA2 HX2;have HRE:Hid (R=.ok ((hdT 27 [] 0 t.at_,.nil),l2)):=HRT.out
   go_wp2_with (first | ((with_reducible show wpList _ _ _ (⟨_,Op.load _ _,_,_,_,_⟩::_) _ _); refine wpList_load_row rfl 31 (.tmp 7) rfl X (by rfl) 31 #[.int .i64 27,.string ⟨#[]⟩,.int .i64 0,.slice none 0 0,.slice none 0 0,.int .i64 t.at_] (0,0) _ (by exact HX.out) Tryz.underlying31 rfl (by exact syn_info) ?_) | ((with_reducible show wpList _ _ _ (⟨_,Op.store _ _ _,_,_,_,_⟩::_) _ _); refine wpList_store_rowTo rfl 31 (.tmp 4) (.tmp 108) rfl rfl A #[.int .i64 27,.string ⟨#[]⟩,.int .i64 0,.slice none 0 0,.slice none 0 0,.int .i64 t.at_] (by rfl) (by rfl) 31 _ (by exact HKA.out) (by exact syn_info) (by rfl) (by simp [Value.oneCell']) ?_))
   refine bodyPost_ret (results_cell_row rfl _ _ A 31 _ (0,0) _ rfl (HKA.out.rset #[.int .i64 27,.string ⟨#[]⟩,.int .i64 0,.slice none 0 0,.slice none 0 0,.int .i64 t.at_]) Tryz.underlying31 rfl syn_info) rfl (PaR.good HRE.out ?_ ⟨_,rfl,?_⟩ ?_)
   ·exact HB.out.rset_new (Nat.le_of_eq HWA.out) _
   ·exact ndv_leaf _ _ _ _ _
   ·exact HP.out.rset hlt.out _
  | false=>
  have HRT2:=zH (HRT.out.trans (if_neg (by rw [show isT (bytes [59]) r=false from HQqs.out]; decide)))
  clear HRT;have HRT:=HRT2;clear HRT2;have HLX:Hid (X < wv.heap.size):=HX.out.lt;have HEX:=zH (HEX.out P (t::r).tail wv HP.out);have HSZ_T:=zH (Nat.le_refl wv.heap.size);rcases hq:ex (t::r).tail with y | ⟨x,l2⟩
  ·have HRE:=zH (HRT.out.trans (thenT_err hq))
   rw [hq] at HEX;clear hq HRT;go_wp2_with fail;refine HEX.out.mono ?_;rintro e wE ⟨hbE,rfl⟩;have HBE:=zH (HB.out.trans hbE);clear hbE HEX;go_wp2_with fail;exact ⟨rfl,PaR.bad HRE.out HBE.out⟩
  have HRT2:=zH (HRT.out.trans (thenT_ok hq))
  rw [hq] at HEX;clear hq HRT;have HRT:=HRT2;clear HRT2;go_wp2_with fail;refine HEX.out.mono ?_;rintro e ww ⟨hbN,⟨T,rfl,hT⟩,hpN⟩;have HT_T:=zH hT;clear HEX hT HSZ_T;have HP2:=zH hpN;have HB2:=zH (HB.out.trans hbN);have HKA2:Hid (Blk ww A 31 #[.int .i64 0,.string ⟨#[]⟩,.int .i64 0,.slice none 0 0,.slice none 0 0,.int .i64 0]):=hbN.blk HKA.out (HP.out.apart HKA.out (by decide))
  have HX2:Hid (Blk ww X 31 #[.int .i64 27,.string ⟨#[]⟩,.int .i64 0,.slice none 0 0,.slice none 0 0,.int .i64 t.at_]):=hbN.blk HX.out (HP.out.apart HX.out (by decide))
  clear hpN hbN HP HB HKA HX;have HP:=HP2; have HB:=HB2; have HKA:=HKA2; have HX:=HX2;clear HP2 HB2 HKA2 HX2;have x4:∀o,(ww.alloc o).cell? ⟨X,4,none⟩=some (.slice none 0 0):=fun o=>(HX.out.alloc o).cell 4
  have x4f:∀o,(ww.alloc o).frozen? ⟨X,4,none⟩=false:=fun o=>(HX.out.alloc o).frozen 4
  go_upto_region 30 with ((with_reducible show wpList _ _ _ (⟨_,Op.buildSlice _ _ _,_,_,_,_⟩::_) _ _); refine wpList_oneN el_syn rfl rfl (T:=T) (by exact HT_T.out.size) (by rfl) ?_)
  clear x4 x4f;have HX2:Hid (Blk ((ww.alloc (.cells T 31)).setCell ⟨X,4,none⟩ (.slice (some ⟨ww.heap.size,0,none⟩) 1 1)) X 31 #[.int .i64 27,.string ⟨#[]⟩,.int .i64 0,.slice none 0 0,.slice (some ⟨ww.heap.size,0,none⟩) 1 1,.int .i64 t.at_]):=(HX.out.alloc _).put 4 _
  have HKA2:Hid (Blk ((ww.alloc (.cells T 31)).setCell ⟨X,4,none⟩ (.slice (some ⟨ww.heap.size,0,none⟩) 1 1)) A 31 #[.int .i64 0,.string ⟨#[]⟩,.int .i64 0,.slice none 0 0,.slice none 0 0,.int .i64 0]):=(HKA.out.alloc _).other (p:=⟨X,4,none⟩) (Nat.ne_of_lt HXA.out) _
  have HP2:Hid (PsW ((ww.alloc (.cells T 31)).setCell ⟨X,4,none⟩ (.slice (some ⟨ww.heap.size,0,none⟩) 1 1)) P _):=(HP.out.below ((Below.refl ww.heap.size ww).alloc (Nat.le_refl _) (.cells T 31))).put HXP.out 4 (.slice (some ⟨ww.heap.size,0,none⟩) 1 1)
  have HB2:Hid (But P w ((ww.alloc (.cells T 31)).setCell ⟨X,4,none⟩ (.slice (some ⟨ww.heap.size,0,none⟩) 1 1))):=(HB.out.alloc _).put_new (by have h1:=HXA.out; have h2:=HWA.out; omega) 4 _
  have HXW:Hid (X < ww.heap.size):=HX.out.lt
  have HF:Hid (FRow (maskW (frS (X+1)) ((ww.alloc (.cells T 31)).setCell ⟨X,4,none⟩ (.slice (some ⟨ww.heap.size,0,none⟩) 1 1))) (.slice (some ⟨ww.heap.size,0,none⟩) 1 1) x.one):=by
   have h1:=HLX.out; have h2:=HXW.out
   refine frow_blk (F:=x.one) ((Blk.new ww 31 T).other (p:=⟨X,4,none⟩) (Nat.ne_of_gt h2) _) (by simp only [frS,decide_eq_true_eq]; omega) (FCl.one (HT_T.out.sub (MSub.csub fun k hk hS=>?_))) (by show 1≤100; decide)
   simp only [frS,decide_eq_true_eq] at hS ⊢;exact ⟨by omega,(Below.heap_setCell _ _ _ _ (by simp only; omega)).trans (Below.heap_alloc _ _ _ hk)⟩
  clear HX HKA HP HB HT_T HXW HLX;have HX:=HX2; have HKA:=HKA2; have HP:=HP2; have HB:=HB2;clear HX2 HKA2 HP2 HB2;generalize ((ww.alloc (.cells T 31)).setCell ⟨X,4,none⟩ (.slice (some ⟨ww.heap.size,0,none⟩) 1 1))=wx at*;generalize ww.heap.size=K6 at*;obtain ⟨ux,rx,hl⟩:=HP.out.ends.cons;have hex:=expect_any (bytes [59]) ux rx P wx (by rw [← hl]; exact HP.out)
  rw [← hl] at hex;have HEX:=zH hex;clear hex hl;rcases hq:expT (bytes [59]) l2 with y | ⟨v2,l3⟩
  ·have HRE:=zH (HRT.out.trans (thenT_err hq))
   rw [hq] at HEX;clear hq HRT;go_wp2_with fail;refine HEX.out.mono ?_;rintro e wE ⟨hbE,rfl⟩;have HBE:=zH (HB.out.trans hbE);clear hbE HEX;go_wp2_with fail;exact ⟨rfl,PaR.bad HRE.out HBE.out⟩
  have HRT2:=zH (HRT.out.trans (thenT_ok hq))
  have HLE_l3:Hid (l3.length < (l2).length):=expT_shr _ _ _ _ hq
  rw [hq] at HEX;clear hq HRT;have HRT:=HRT2;clear HRT2;have hf2:=tk_f2 v2.kind v2.at_ ⟨v2.text.toArray⟩;go_wp2_with fail;refine HEX.out.mono ?_;rintro e wy ⟨hbN,heN,hpN⟩;unfold TkR tkV at heN;subst heN;clear HEX;have HP2:=zH hpN;have HB2:=zH (HB.out.trans hbN)
  have HKA2:Hid (Blk wy A 31 #[.int .i64 0,.string ⟨#[]⟩,.int .i64 0,.slice none 0 0,.slice none 0 0,.int .i64 0]):=hbN.blk HKA.out (HP.out.apart HKA.out (by decide))
  have HX2:Hid (Blk wy X 31 #[.int .i64 27,.string ⟨#[]⟩,.int .i64 0,.slice none 0 0,.slice (some ⟨K6,0,none⟩) 1 1,.int .i64 t.at_]):=hbN.blk HX.out (HP.out.apart HX.out (by decide))
  have HF2:Hid (FRow (maskW (frS (X+1)) wy) (.slice (some ⟨K6,0,none⟩) 1 1) (x.one)):=HF.out.sub (MSub.csub fun k hk hS=>⟨hS,hbN.block k hk (by have h1:=HXP.out; simp only [frS,decide_eq_true_eq] at hS; omega)⟩)
  clear hpN hbN HP HB HKA HF HX;have HF:=HF2;clear HF2;have HP:=HP2; have HB:=HB2; have HKA:=HKA2; have HX:=HX2;clear HP2 HB2 HKA2 HX2;have HRE:Hid (R=.ok ((hdT 27 [] 0 t.at_,x.one),l3)):=HRT.out
  go_wp2_with (first | ((with_reducible show wpList _ _ _ (⟨_,Op.load _ _,_,_,_,_⟩::_) _ _); refine wpList_load_row rfl 31 (.tmp 7) rfl X (by rfl) 31 #[.int .i64 27,.string ⟨#[]⟩,.int .i64 0,.slice none 0 0,.slice (some ⟨K6,0,none⟩) 1 1,.int .i64 t.at_] (0,0) _ (by exact HX.out) Tryz.underlying31 rfl (by exact syn_info) ?_) | ((with_reducible show wpList _ _ _ (⟨_,Op.store _ _ _,_,_,_,_⟩::_) _ _); refine wpList_store_rowTo rfl 31 (.tmp 4) (.tmp 108) rfl rfl A #[.int .i64 27,.string ⟨#[]⟩,.int .i64 0,.slice none 0 0,.slice (some ⟨K6,0,none⟩) 1 1,.int .i64 t.at_] (by rfl) (by rfl) 31 _ (by exact HKA.out) (by exact syn_info) (by rfl) (by simp [Value.oneCell']) ?_))
  refine bodyPost_ret (results_cell_row rfl _ _ A 31 _ (0,0) _ rfl (HKA.out.rset #[.int .i64 27,.string ⟨#[]⟩,.int .i64 0,.slice none 0 0,.slice (some ⟨K6,0,none⟩) 1 1,.int .i64 t.at_]) Tryz.underlying31 rfl syn_info) rfl (PaR.good HRE.out ?_ ⟨_,rfl,?_⟩ ?_)
  ·exact HB.out.rset_new (Nat.le_of_eq HWA.out) _
  ·exact ndv_mk (hdT 27 [] 0 t.at_) x.one rfl rfl (nmrow_nil _) (HF.out.sub (MSub.csub fun k hk hS=>⟨by have h1:=HXA.out; have h2:=HWA.out; simp only [frS,decide_eq_true_eq] at hS ⊢; omega,heap_rset_ne _ A k _ (by have h1:=HXA.out; simp only [frS,decide_eq_true_eq] at hS; omega)⟩))
  ·exact HP.out.rset hlt.out _
 | false=>
 have HRT2:=zH (HRT.out.trans (if_neg (by rw [HQqt.out]; decide)))
 clear HRT;have HRT:=HRT2;clear HRT2;have HAG:=zH (assigns_any t r P w10 HP.out);obtain ⟨qa,hq⟩:∃q,assT (t::r)=q:=⟨_,rfl⟩;rw [hq] at HAG;have HQqa:=zH hq;clear hq;go_wp2_with fail;refine HAG.out.mono ?_;rintro e wa2 ⟨rfl,hbw⟩;have hbN:But P w10 wa2:=But.of_below hbw;have hpN:=HP.out.below hbw;clear HAG hbw;have HP2:=zH hpN;have HB2:=zH (HB.out.trans hbN)
 have HKA2:Hid (Blk wa2 A 31 #[.int .i64 0,.string ⟨#[]⟩,.int .i64 0,.slice none 0 0,.slice none 0 0,.int .i64 0]):=hbN.blk HKA.out (HP.out.apart HKA.out (by decide))
 clear hpN hbN HP HB HKA;have HP:=HP2; have HB:=HB2; have HKA:=HKA2;clear HP2 HB2 HKA2
 cases qa with
 | true=>
  have HRT2:=zH (HRT.out.trans (if_pos HQqa.out))
  clear HRT;have HRT:=HRT2;clear HRT2;have HCC:=zH (HAS.out 21 t.at_ P (t::r) wa2 HP.out);rw [← HRT.out] at HCC;go_wp2_with fail;refine HCC.out.mono ?_;intro e wR h;obtain ⟨hb,h⟩:=h;have HBR2:=zH (HB.out.trans hb)
  cases hRR:R with
  | error x=>
   rw [hRR] at h;obtain rfl:=h;have HRR:=zH hRR;clear hRR hb HCC HRT;go_wp2_with fail;exact ⟨rfl,PaR.bad HRR.out HBR2.out⟩
  | ok y=>
   obtain ⟨x,l2⟩:=y
   rw [hRR] at h;obtain ⟨⟨T,rfl,hT⟩,hp2⟩:=h;have HRR:=zH hRR;have HT:=zH hT;have HP2:=zH hp2;have HK1:=zH (hb.blk HKA.out (HP.out.apart HKA.out (by decide)))
   have HAL:Hid (A < wa2.heap.size):=HKA.out.lt
   clear hRR hb HCC hT hp2 HRT;go_wp2_with ((with_reducible show wpList _ _ _ (⟨_,Op.store _ _ _,_,_,_,_⟩::_) _ _); refine wpList_store_rowTo rfl 31 (.tmp 4) (.tmp 114) rfl rfl A T (by rfl) (by rfl) 31 _ (by exact HK1.out) (by exact HT.out.inf) (by exact HT.out.size.symm) (by exact HT.out.one) ?_)
   refine bodyPost_ret (results_cell_row rfl _ _ A 31 _ (0,0) _ rfl (HK1.out.rset T) Tryz.underlying31 rfl HT.out.inf) rfl (PaR.good HRR.out ?_ ⟨T,rfl,?_⟩ ?_)
   ·exact HBR2.out.rset_new (Nat.le_of_eq HWA.out) T
   ·refine HT.out.sub (MSub.csub fun k hk hS=>?_)
    have h1:=HAL.out
    have h2:=HWA.out
    simp only [frS,decide_eq_true_eq] at hS ⊢;exact ⟨by omega,heap_rset_ne wR A k T (by omega)⟩
   ·exact HP2.out.rset hlt.out T
 | false=>
 have HRT2:=zH (HRT.out.trans (if_neg (by rw [HQqa.out]; decide)))
 clear HRT;have HRT:=HRT2;clear HRT2;have HAL:Hid (A < wa2.heap.size):=HKA.out.lt;have HEX:=zH (HEX.out P (t::r) wa2 HP.out);have HSZ_T:=zH (Nat.le_refl wa2.heap.size);rcases hq:ex (t::r) with y | ⟨x,l2⟩
 ·have HRE:=zH (HRT.out.trans (thenT_err hq))
  rw [hq] at HEX;clear hq HRT;go_wp2_with fail;refine HEX.out.mono ?_;rintro e wE ⟨hbE,rfl⟩;have HBE:=zH (HB.out.trans hbE);clear hbE HEX;go_wp2_with fail;exact ⟨rfl,PaR.bad HRE.out HBE.out⟩
 have HRT2:=zH (HRT.out.trans (thenT_ok hq))
 rw [hq] at HEX;clear hq HRT;have HRT:=HRT2;clear HRT2;go_wp2_with fail;refine HEX.out.mono ?_;rintro e wb2 ⟨hbN,⟨T,rfl,hT⟩,hpN⟩;have HT_T:=zH hT;clear HEX hT HSZ_T;have HP2:=zH hpN;have HB2:=zH (HB.out.trans hbN);have HKA2:Hid (Blk wb2 A 31 #[.int .i64 0,.string ⟨#[]⟩,.int .i64 0,.slice none 0 0,.slice none 0 0,.int .i64 0]):=hbN.blk HKA.out (HP.out.apart HKA.out (by decide))
 clear hpN hbN HP HB HKA;have HP:=HP2; have HB:=HB2; have HKA:=HKA2;clear HP2 HB2 HKA2;have hkk:∀cs:Array Value,(wb2.alloc (.cells cs 31)).heap.size=wb2.heap.size+1:=fun cs=>by simp
 go_upto_region 35 with ((with_reducible show wpList _ _ _ (⟨_,Op.buildSlice _ _ _,_,_,_,_⟩::_) _ _); refine wpList_oneN el_syn rfl rfl (T:=T) (by exact HT_T.out.size) (by rfl) ?_)

 have hk1:(wb2.alloc (.cells T 31)).heap.size=wb2.heap.size+1:=hkk T
 have HX:Hid (Blk ((wb2.alloc (.cells T 31)).alloc (.cells #[.int .i64 28,.string ⟨#[]⟩,.int .i64 0,.slice none 0 0,.slice (some ⟨wb2.heap.size,0,none⟩) 1 1,.int .i64 t.at_] 31)) (wb2.heap.size+1) 31 #[.int .i64 28,.string ⟨#[]⟩,.int .i64 0,.slice none 0 0,.slice (some ⟨wb2.heap.size,0,none⟩) 1 1,.int .i64 t.at_]):=Blk.new_at hk1.symm _ _
 have HKK:Hid (Blk ((wb2.alloc (.cells T 31)).alloc (.cells #[.int .i64 28,.string ⟨#[]⟩,.int .i64 0,.slice none 0 0,.slice (some ⟨wb2.heap.size,0,none⟩) 1 1,.int .i64 t.at_] 31)) wb2.heap.size 31 T):=(Blk.new wb2 31 T).alloc _
 have HKA2:Hid (Blk ((wb2.alloc (.cells T 31)).alloc (.cells #[.int .i64 28,.string ⟨#[]⟩,.int .i64 0,.slice none 0 0,.slice (some ⟨wb2.heap.size,0,none⟩) 1 1,.int .i64 t.at_] 31)) A 31 #[.int .i64 0,.string ⟨#[]⟩,.int .i64 0,.slice none 0 0,.slice none 0 0,.int .i64 0]):=(HKA.out.alloc _).alloc _
 have HP2:Hid (PsW ((wb2.alloc (.cells T 31)).alloc (.cells #[.int .i64 28,.string ⟨#[]⟩,.int .i64 0,.slice none 0 0,.slice (some ⟨wb2.heap.size,0,none⟩) 1 1,.int .i64 t.at_] 31)) P l2):=(HP.out.below ((Below.refl wb2.heap.size wb2).alloc (Nat.le_refl _) (.cells T 31))).below ((Below.refl _ _).alloc (Nat.le_refl _) _)
 have HB2:Hid (But P w ((wb2.alloc (.cells T 31)).alloc (.cells #[.int .i64 28,.string ⟨#[]⟩,.int .i64 0,.slice none 0 0,.slice (some ⟨wb2.heap.size,0,none⟩) 1 1,.int .i64 t.at_] 31))):=(HB.out.alloc _).alloc _
 have HAB:Hid (A < wb2.heap.size):=HKA.out.lt
 have HTW:Hid (NdV (maskW (fun k=>decide (A < k)&&decide (k≠wb2.heap.size+1)) ((wb2.alloc (.cells T 31)).alloc (.cells #[.int .i64 28,.string ⟨#[]⟩,.int .i64 0,.slice none 0 0,.slice (some ⟨wb2.heap.size,0,none⟩) 1 1,.int .i64 t.at_] 31))) T x):=by
  refine HT_T.out.sub (MSub.csub fun k hk hS=>?_)
  have h1:=HAL.out
  simp only [frS,decide_eq_true_eq] at hS;refine ⟨by simp; omega,?_⟩
  exact (Below.heap_alloc _ _ _ (by rw [hk1]; omega)).trans (Below.heap_alloc _ _ _ hk)
 clear HP HB HKA HT_T hk1 hkk;have HP:=HP2; have HB:=HB2; have HKA:=HKA2;clear HP2 HB2 HKA2;generalize ((wb2.alloc (.cells T 31)).alloc (.cells #[.int .i64 28,.string ⟨#[]⟩,.int .i64 0,.slice none 0 0,.slice (some ⟨wb2.heap.size,0,none⟩) 1 1,.int .i64 t.at_] 31))=wc2 at*;obtain ⟨X,hX⟩:∃X,wb2.heap.size+1=X:=⟨_,rfl⟩;rw [hX] at HX HTW ⊢;have HKX:Hid (wb2.heap.size≠X):=by show _≠_; omega
 have HXA:Hid (A < X):=by have h1:=HAB.out; show _ < _; omega
 clear hX;generalize wb2.heap.size=K6 at*;have HF:Hid (FRow (maskW (fun k=>decide (A < k)&&decide (k≠X)) wc2) (.slice (some ⟨K6,0,none⟩) 1 1) x.one):=frow_blk (F:=x.one) HKK.out (by have h1:=HKX.out; have h2:=HAB.out; simp; omega) (FCl.one HTW.out) (by show 1≤100; decide)
 clear HKK HTW;obtain ⟨ux,rx,hl⟩:=HP.out.ends.cons;have hex:=expect_any (bytes [59]) ux rx P wc2 (by rw [← hl]; exact HP.out)
 rw [← hl] at hex;have HEX:=zH hex;clear hex hl;rcases hq:expT (bytes [59]) l2 with y | ⟨v2,l3⟩
 ·have HRE:=zH (HRT.out.trans (thenT_err hq))
  rw [hq] at HEX;clear hq HRT;go_wp2_with fail;refine HEX.out.mono ?_;rintro e wE ⟨hbE,rfl⟩;have HBE:=zH (HB.out.trans hbE);clear hbE HEX;go_wp2_with fail;exact ⟨rfl,PaR.bad HRE.out HBE.out⟩
 have HRT2:=zH (HRT.out.trans (thenT_ok hq))
 have HLE_l3:Hid (l3.length < (l2).length):=expT_shr _ _ _ _ hq
 rw [hq] at HEX;clear hq HRT;have HRT:=HRT2;clear HRT2;have hf2:=tk_f2 v2.kind v2.at_ ⟨v2.text.toArray⟩;go_wp2_with fail;refine HEX.out.mono ?_;rintro e wd2 ⟨hbN,heN,hpN⟩;unfold TkR tkV at heN;subst heN;clear HEX;have HP2:=zH hpN;have HB2:=zH (HB.out.trans hbN)
 have HKA2:Hid (Blk wd2 A 31 #[.int .i64 0,.string ⟨#[]⟩,.int .i64 0,.slice none 0 0,.slice none 0 0,.int .i64 0]):=hbN.blk HKA.out (HP.out.apart HKA.out (by decide))
 have HX2:Hid (Blk wd2 X 31 #[.int .i64 28,.string ⟨#[]⟩,.int .i64 0,.slice none 0 0,.slice (some ⟨K6,0,none⟩) 1 1,.int .i64 t.at_]):=hbN.blk HX.out (HP.out.apart HX.out (by decide))
 have HF2:Hid (FRow (maskW (fun k=>decide (A < k)&&decide (k≠X)) wd2) (.slice (some ⟨K6,0,none⟩) 1 1) (x.one)):=HF.out.sub (MSub.csub fun k hk hS=>⟨hS,hbN.block k hk (by have h1:=hlt.out; simp at hS; omega)⟩)
 clear hpN hbN HP HB HKA HF HX;have HF:=HF2;clear HF2;have HP:=HP2; have HB:=HB2; have HKA:=HKA2; have HX:=HX2;clear HP2 HB2 HKA2 HX2;have HRE:Hid (R=.ok ((hdT 28 [] 0 t.at_,x.one),l3)):=HRT.out
 go_wp2_with (first | ((with_reducible show wpList _ _ _ (⟨_,Op.load _ _,_,_,_,_⟩::_) _ _); refine wpList_load_row rfl 31 (.tmp 8) rfl X (by rfl) 31 #[.int .i64 28,.string ⟨#[]⟩,.int .i64 0,.slice none 0 0,.slice (some ⟨K6,0,none⟩) 1 1,.int .i64 t.at_] (0,0) _ (by exact HX.out) Tryz.underlying31 rfl (by exact syn_info) ?_) | ((with_reducible show wpList _ _ _ (⟨_,Op.store _ _ _,_,_,_,_⟩::_) _ _); refine wpList_store_rowTo rfl 31 (.tmp 4) (.tmp 124) rfl rfl A #[.int .i64 28,.string ⟨#[]⟩,.int .i64 0,.slice none 0 0,.slice (some ⟨K6,0,none⟩) 1 1,.int .i64 t.at_] (by rfl) (by rfl) 31 _ (by exact HKA.out) (by exact syn_info) (by rfl) (by simp [Value.oneCell']) ?_))
 refine bodyPost_ret (results_cell_row rfl _ _ A 31 _ (0,0) _ rfl (HKA.out.rset #[.int .i64 28,.string ⟨#[]⟩,.int .i64 0,.slice none 0 0,.slice (some ⟨K6,0,none⟩) 1 1,.int .i64 t.at_]) Tryz.underlying31 rfl syn_info) rfl (PaR.good HRE.out ?_ ⟨_,rfl,?_⟩ ?_)
 ·exact HB.out.rset_new (Nat.le_of_eq HWA.out) _
 ·exact ndv_mk (hdT 28 [] 0 t.at_) x.one rfl rfl (nmrow_nil _) (HF.out.sub (MSub.csub fun k hk hS=>⟨by have h1:=HXA.out; have h2:=HWA.out; simp only [Bool.and_eq_true,decide_eq_true_eq] at hS; simp only [frS,decide_eq_true_eq]; omega,heap_rset_ne _ A k _ (by simp only [Bool.and_eq_true,decide_eq_true_eq] at hS; omega)⟩))
 ·exact HP.out.rset hlt.out _
end Go.Proofs.YtbaidkefobhipaaGreatDoor
