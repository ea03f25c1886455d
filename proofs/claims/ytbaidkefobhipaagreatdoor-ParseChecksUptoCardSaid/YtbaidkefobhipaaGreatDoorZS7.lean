/-
  Plain: the parser's statements are right and no heavier than their tokens; a script's tree.
  Plain: the tokens of a script are what their kinds say; what Program gives is right, light, and its errors lie in the script.
  Plain definitions: the text of a program.
-/
import Derived.Test.YtbaidkefobhipaaGreatDoorZS6
import Derived.Test.YtbaidkefobhipaaGreatDoorZS4
import Derived.Test.YtbaidkefobhipaaGreatDoorZS5
import Derived.Lib.Join
import Derived.Lib.ItoaNum
namespace Go.Proofs.YtbaidkefobhipaaGreatDoor

abbrev blQ (x:Nd):Prop:=stN x.1 x.2=true∧x.1.kind=25
theorem sq_ex {x:Nd} {R:Fo} {t:List Ro} (hx:exQ x) (hR:rt (.sq t) R=true):rt (.sq (.ex::t)) (x.one.app R)=true:=by
 simp only [Nd.one,Fo.app,rt,hR,Bool.and_true];exact hx
theorem sq_bl {x:Nd} {R:Fo} {t:List Ro} (hx:blQ x) (hR:rt (.sq t) R=true):rt (.sq (.bl::t)) (x.one.app R)=true:=by
 have h1:=hx.1
 unfold stN at h1;simp only [Bool.and_eq_true] at h1;simp only [Nd.one,Fo.app,rt,hR,Bool.and_true,Bool.and_eq_true,decide_eq_true_eq];exact ⟨⟨hx.2,h1.1⟩,h1.2⟩
theorem sq_bi {x:Nd} {R:Fo} {t:List Ro} (hx:stQ x) (hk:x.1.kind=25∨x.1.kind=22) (hR:rt (.sq t) R=true):rt (.sq (.bi::t)) (x.one.app R)=true:=by
 have h1:=hx
 unfold stQ stN at h1;simp only [Bool.and_eq_true] at h1;simp only [Nd.one,Fo.app,rt,hR,Bool.and_true,Bool.and_eq_true,decide_eq_true_eq,Bool.or_eq_true];exact ⟨⟨hk,h1.1⟩,h1.2⟩
theorem sq_nil:rt (.sq []) .nil=true:=rfl
theorem stQ_mk {h:Hd} {k:Fo} (h1:stH h=true) (h2:rt (kidM h k.len) k=true):stQ (h,k):=by
 show stN _ _=true
 unfold stN;rw [h1,h2];rfl
theorem wt_hd {k:Int} {t:List UInt8} {n:Int} {p:Nat}:(hdT k t n p).wt=1+t.length:=by simp [Hd.wt,hdT]
theorem wt_nd (h:Hd) (k:Fo):Nd.wt (h,k)=h.wt+k.wt:=rfl

theorem blkL_good {st:Pa Nd} (hst:GSt st):∀(n:Nat) (acc:Fo) (l:List Tk),rt .st acc=true→AOk l→Good (fun F:Fo=>rt .st F=true) Fo.wt acc.wt l (blkL st n acc l):=by
 intro n;induction n with
 | zero=>intro acc l _ _; exact good_fail 18 (Or.inr rfl) fun _ h=>h
 | succ n ih=>
  intro acc l hacc ha;simp only [blkL];split
  ·rename_i h
   obtain ⟨t,r,rfl,-⟩:=isT_cons h
   have htw:=tw_cons t r
   exact good_ok hacc (by simp only [List.tail_cons]; omega) (sub_tail fun _ h=>h)
  ·refine good_then (hst l ha) (fun _ h=>h) fun x l3 hx hm3 hs3=>?_
   refine good_from (ih _ l3 (rt_snocS hacc hx) fun u hu=>ha u (hs3 u hu)) hs3 ?_
   rw [Fo.wt_app,Nd.wt_one];omega
def GBl (op:Pa Nd):Prop:=∀l,AOk l→Good blQ Nd.wt 0 l (op l)
theorem blkP_good {st:Pa Nd} (hst:GSt st):GBl (blkP st):=by
 intro l ha;unfold blkP;refine good_then (exp_good _ l) (fun _ h=>h) fun t l2 _ hm hs=>?_
 refine good_then (blkL_good hst _ .nil l2 rfl fun u hu=>ha u (hs u hu)) hs fun k l3 hk hm3 hs3=>?_
 refine good_ok ⟨stQ_mk (by simp [stH,hdT]) (by simpa [kidM,hdT] using hk),rfl⟩ ?_ hs3
 rw [wt_nd,wt_hd];simp only [Fo.wt,List.length_nil] at hm3 ⊢;omega
theorem asgP_good {ex:Pa Nd} (hex:GEx ex) (kind:Int) (hk:kind=20∨kind=21) (pos:Nat) (l:List Tk) (ha:AOk l):Good stQ Nd.wt 0 l (asgP ex kind pos l):=by
 unfold asgP;refine good_then (nam_good l ha) (fun _ h=>h) fun n l2 hn hm hs=>?_
 refine good_then (exp_good _ l2) hs fun u l3 _ hm3 hs3=>?_
 refine good_then (hex l3 fun v hv=>ha v (hs3 v hv)) hs3 fun x l4 hx hm4 hs4=>?_
 refine good_then (exp_good _ l4) hs4 fun v l5 _ hm5 hs5=>?_
 refine good_ok (stQ_mk ?_ ?_) ?_ hs5
 ·rcases hk with rfl | rfl <;> simp [stH,hdT,hn]
 ·have h1:=sq_ex hx sq_nil
  rw [Fo.app_nil] at h1;rcases hk with rfl | rfl <;> simpa [kidM,hdT] using h1
 ·rw [wt_nd,wt_hd,Nd.wt_one]
  omega
theorem parL_good:∀(n:Nat) (acc:List (List UInt8)) (l:List Tk),acc.all isNameP=true→AOk l→Good (fun ps:List (List UInt8)=>ps.all isNameP=true) (fun ps=>(ps.map fun n=>1+n.length).sum) ((acc.map fun n=>1+n.length).sum) l (parL n acc l):=by
 intro n;induction n with
 | zero=>intro acc l _ _; exact good_fail 18 (Or.inr rfl) fun _ h=>h
 | succ n ih=>
  intro acc l hacc ha;simp only [parL];split
  ·rename_i h
   obtain ⟨t,r,rfl,-⟩:=isT_cons h
   have htw:=tw_cons t r
   exact good_ok hacc (by simp only [List.tail_cons]; omega) (sub_tail fun _ h=>h)
  ·have hc:Good (fun _:Unit=>True) (fun _=>0) 0 l (if acc.length=0 then .ok ((),l) else thenT (expT (bytes [44]) l) fun _ l2=>.ok ((),l2)):=by
    split
    ·exact good_ok trivial (by omega) fun _ h=>h
    ·refine good_then (exp_good _ l) (fun _ h=>h) fun u l2 _ hm hs=>good_ok trivial (by omega) hs
   refine good_then hc (fun _ h=>h) fun u l2 _ hm hs=>?_
   refine good_then (nam_good l2 fun u hu=>ha u (hs u hu)) hs fun x l3 hx hm3 hs3=>?_
   refine good_from (ih (acc++[x]) l3 (by simp [hx]; simpa using hacc) fun u hu=>ha u (hs3 u hu)) hs3 ?_
   simp only [List.map_append,List.sum_append,List.map_cons,List.map_nil,List.sum_cons,List.sum_nil];omega
theorem funP_good {st:Pa Nd} (hst:GSt st):GSt (funP st):=by
 intro l ha;unfold funP;refine good_then (exp_good _ l) (fun _ h=>h) fun t l2 _ hm hs=>?_
 refine good_then (nam_good l2 fun u hu=>ha u (hs u hu)) hs fun n l3 hn hm3 hs3=>?_
 refine good_then (exp_good _ l3) hs3 fun u l4 _ hm4 hs4=>?_
 refine good_then (parL_good _ [] l4 rfl fun u hu=>ha u (hs4 u hu)) hs4 fun ps l5 hps hm5 hs5=>?_
 refine good_then (blkP_good hst l5 fun u hu=>ha u (hs5 u hu)) hs5 fun b l6 hb hm6 hs6=>?_
 refine good_ok (stQ_mk ?_ ?_) ?_ hs6
 ·simp [stH,hn]
  simpa using hps
 ·have h1:=sq_bl hb sq_nil
  rw [Fo.app_nil] at h1;simpa [kidM] using h1
 ·rw [wt_nd,Nd.wt_one]
  simp only [Hd.wt,List.map_nil,List.sum_nil] at hm5 ⊢;omega
theorem forP_good {ex st:Pa Nd} (hex:GEx ex) (hst:GSt st):GSt (forP ex st):=by
 intro l ha;unfold forP;refine good_then (exp_good _ l) (fun _ h=>h) fun t l2 _ hm hs=>?_
 refine good_then (nam_good l2 fun u hu=>ha u (hs u hu)) hs fun n l3 hn hm3 hs3=>?_
 refine good_then (exp_good _ l3) hs3 fun u l4 _ hm4 hs4=>?_
 refine good_then (hex l4 fun v hv=>ha v (hs4 v hv)) hs4 fun x l5 hx hm5 hs5=>?_
 refine good_then (exp_good _ l5) hs5 fun u l6 _ hm6 hs6=>?_
 refine good_then (hex l6 fun v hv=>ha v (hs6 v hv)) hs6 fun y l7 hy hm7 hs7=>?_
 refine good_then (blkP_good hst l7 fun u hu=>ha u (hs7 u hu)) hs7 fun b l8 hb hm8 hs8=>?_
 refine good_ok (stQ_mk ?_ ?_) ?_ hs8
 ·simp [stH,hdT,hn]
 ·have h1:=sq_ex hx (sq_ex hy (sq_bl hb sq_nil))
  rw [Fo.app_nil,← Fo.app_assoc] at h1;simpa [kidM,hdT] using h1
 ·rw [wt_nd,wt_hd,Fo.wt_app,Fo.wt_app,Nd.wt_one,Nd.wt_one,Nd.wt_one]
  omega
abbrev ifQ (x:Nd):Prop:=stN x.1 x.2=true∧x.1.kind=22
def GIf (op:Pa Nd):Prop:=∀l,AOk l→Good ifQ Nd.wt 0 l (op l)
theorem ifP_good {ex st br:Pa Nd} (hex:GEx ex) (hst:GSt st) (hbr:GIf br):GIf (ifP ex st br):=by
 intro l ha;unfold ifP;refine good_then (exp_good _ l) (fun _ h=>h) fun t l2 _ hm hs=>?_
 refine good_then (hex l2 fun v hv=>ha v (hs v hv)) hs fun x l3 hx hm3 hs3=>?_
 refine good_then (blkP_good hst l3 fun u hu=>ha u (hs3 u hu)) hs3 fun b l4 hb hm4 hs4=>?_
 have hth:∀(c:Nd) (p:Nat),stQ c→(c.1.kind=25∨c.1.kind=22)→ifQ (hdT 22 [] 0 p,(x.one.app b.one).app c.one):=fun c p hc hk=>by
  refine ⟨stQ_mk (by simp [stH,hdT]) ?_,rfl⟩
  have h1:=sq_ex hx (sq_bl hb (sq_bi hc hk sq_nil))
  rw [Fo.app_nil,← Fo.app_assoc] at h1;have hl:((x.one.app b.one).app c.one).len=3:=rfl;rw [hl];simpa [kidM,hdT] using h1
 split
 ·rename_i he
  obtain ⟨v,r4,rfl,-⟩:=isT_cons he
  have htw:=tw_cons v r4
  have hs5:=sub_tail hs4
  by_cases c9:isT (bytes [105,102]) (v::r4).tail=true
  ·rw [if_pos c9]
   refine good_then (hbr r4 fun u hu=>ha u (hs5 u hu)) hs5 fun c l5 hc hm5 hs6=>?_
   refine good_ok (hth c _ hc.1 (Or.inr hc.2)) ?_ hs6
   rw [wt_nd,wt_hd,Fo.wt_app,Fo.wt_app,Nd.wt_one,Nd.wt_one,Nd.wt_one];simp only [List.length_nil];omega
  ·rw [if_neg c9]
   refine good_then (blkP_good hst r4 fun u hu=>ha u (hs5 u hu)) hs5 fun c l5 hc hm5 hs6=>?_
   refine good_ok (hth c _ hc.1 (Or.inl hc.2)) ?_ hs6
   rw [wt_nd,wt_hd,Fo.wt_app,Fo.wt_app,Nd.wt_one,Nd.wt_one,Nd.wt_one];simp only [List.length_nil];omega
 ·refine good_ok ⟨stQ_mk (by simp [stH,hdT]) ?_,rfl⟩ ?_ hs4
  ·have h1:=sq_ex hx (sq_bl hb sq_nil)
   rw [Fo.app_nil] at h1;have hl:(x.one.app b.one).len=2:=rfl;rw [hl];simpa [kidM,hdT] using h1
  ·rw [wt_nd,wt_hd,Fo.wt_app,Nd.wt_one,Nd.wt_one]
   simp only [List.length_nil];omega
theorem good_weak {α:Type} {Q Q':α→Prop} {m:α→Nat} {c:Nat} {l0:List Tk} {r:Except (Nat×Nat) (α×List Tk)} (h:Good Q m c l0 r) (hq:∀a,Q a→Q' a):Good Q' m c l0 r:=by
 cases r with
 | error z=>exact h
 | ok z=>exact ⟨hq _ h.1,h.2⟩
theorem staP_good {ex st br:Pa Nd} (hex:GEx ex) (hst:GSt st) (hbr:GIf br):GSt (staP ex st br):=by
 intro l ha
 cases l with
 | nil=>exact good_err
 | cons t r=>
  have hr:AOk r:=ha.tail
  have htw:=tw_cons t r
  have hsr:∀u∈r,u∈t::r:=sub_tail fun _ h=>h
  simp only [staP];by_cases c0:begT (t::r)=false
  ·rw [if_pos c0]; exact good_at (List.mem_cons_self ..)
  rw [if_neg c0];by_cases c1:isT (bytes [108,101,116]) (t::r)=true
  ·rw [if_pos c1]; exact good_from (asgP_good hex 20 (Or.inl rfl) t.at_ r hr) hsr (by omega)
  rw [if_neg c1];by_cases c2:isT (bytes [105,102]) (t::r)=true
  ·rw [if_pos c2]; exact good_weak (hbr (t::r) ha) fun a h=>h.1
  rw [if_neg c2];by_cases c3:isT (bytes [119,104,105,108,101]) (t::r)=true
  ·rw [if_pos c3]
   refine good_then (hex r hr) hsr fun x l2 hx hm hs=>?_
   refine good_then (blkP_good hst l2 fun u hu=>ha u (hs u hu)) hs fun b l3 hb hm3 hs3=>?_
   refine good_ok (stQ_mk (by simp [stH,hdT]) ?_) ?_ hs3
   ·have h1:=sq_ex hx (sq_bl hb sq_nil)
    rw [Fo.app_nil] at h1;simpa [kidM,hdT] using h1
   ·rw [wt_nd,wt_hd,Fo.wt_app,Nd.wt_one,Nd.wt_one]
    simp only [List.length_nil];omega
  rw [if_neg c3];by_cases c4:isT (bytes [102,111,114]) (t::r)=true
  ·rw [if_pos c4]; exact forP_good hex hst (t::r) ha
  rw [if_neg c4];by_cases c5:isT (bytes [102,110]) (t::r)=true
  ·rw [if_pos c5]; exact funP_good hst (t::r) ha
  rw [if_neg c5];by_cases c6:isT (bytes [123]) (t::r)=true
  ·rw [if_pos c6]; exact good_weak (blkP_good hst (t::r) ha) fun a h=>h.1
  rw [if_neg c6];by_cases c7:isT (bytes [98,114,101,97,107]) (t::r)=true
  ·rw [if_pos c7]
   refine good_then (exp_good _ r) hsr fun u l2 _ hm hs=>?_
   refine good_ok (stQ_mk (by simp [stH,hdT]) (by simp [kidM,hdT,rt])) ?_ hs
   rw [wt_nd,wt_hd];simp only [Fo.wt,List.length_nil];omega
  rw [if_neg c7];by_cases c8:isT (bytes [114,101,116,117,114,110]) (t::r)=true
  ·rw [if_pos c8]
   split
   ·rename_i h9
    obtain ⟨v,r4,rfl,-⟩:=isT_cons h9
    have htw2:=tw_cons v r4
    refine good_ok (stQ_mk (by simp [stH,hdT]) (by simp [kidM,hdT,rt,Fo.len])) ?_ (sub_tail hsr)
    rw [wt_nd,wt_hd];simp only [Fo.wt,List.length_nil,List.tail_cons];omega
   ·refine good_then (hex r hr) hsr fun x l2 hx hm hs=>?_
    refine good_then (exp_good _ l2) hs fun u l3 _ hm3 hs3=>?_
    refine good_ok (stQ_mk (by simp [stH,hdT]) ?_) ?_ hs3
    ·have h1:=sq_ex hx sq_nil
     rw [Fo.app_nil] at h1;have hl:x.one.len=1:=rfl;rw [hl];simpa [kidM,hdT] using h1
    ·rw [wt_nd,wt_hd,Nd.wt_one]
     simp only [List.length_nil];omega
  rw [if_neg c8];by_cases c9:assT (t::r)=true
  ·rw [if_pos c9]; exact asgP_good hex 21 (Or.inr rfl) t.at_ (t::r) ha
  rw [if_neg c9];refine good_then (hex (t::r) ha) (fun _ h=>h) fun x l2 hx hm hs=>?_
  refine good_then (exp_good _ l2) hs fun u l3 hu hm3 hs3=>?_
  refine good_ok (stQ_mk (by simp [stH,hdT]) ?_) ?_ hs3
  ·have h1:=sq_ex hx sq_nil
   rw [Fo.app_nil] at h1;simpa [kidM,hdT] using h1
  ·rw [wt_nd,wt_hd,Nd.wt_one]
   simp only [List.length_nil];omega
theorem sbP_good:∀d,GSt (sbP d).1∧GIf (sbP d).2:=by
 intro d;induction d with
 | zero=>
  refine ⟨fun l ha=>?_,fun l ha=>good_fail 12 (Or.inl rfl) fun _ h=>h⟩
  show Good _ _ _ _ (if begT l then failT 12 l else failT 18 l)
  split
  ·exact good_fail 12 (Or.inl rfl) fun _ h=>h
  ·exact good_fail 18 (Or.inr rfl) fun _ h=>h
 | succ d ih=>exact ⟨staP_good (expP_good d) ih.1 (ifP_good (expP_good d) ih.1 ih.2),ifP_good (expP_good d) ih.1 ih.2⟩
theorem proL_good {st:Pa Nd} (hst:GSt st):∀(n:Nat) (acc:Fo) (l:List Tk),rt .st acc=true→AOk l→
  match proL st n acc l with
  | .error x=>(x.2=12∨x.2=18)∧(x.1=0∨∃t∈l,x.1=t.at_)
  | .ok F=>rt .st F=true∧F.wt≤acc.wt+tw l:=by
 intro n;induction n with
 | zero=>
  intro acc l _ _;simp only [proL]
  cases l with
  | nil=>exact ⟨Or.inr rfl,Or.inl rfl⟩
  | cons t r=>exact ⟨Or.inr rfl,Or.inr ⟨t,List.mem_cons_self ..,rfl⟩⟩
 | succ n ih=>
  intro acc l hacc ha
  cases l with
  | nil=>exact ⟨Or.inr rfl,Or.inl rfl⟩
  | cons t r=>
   simp only [proL];by_cases h0:t.kind=0
   ·rw [if_pos h0]; exact ⟨hacc,by omega⟩
   rw [if_neg h0];have h1:=hst (t::r) ha;generalize st (t::r)=q at h1
   cases q with
   | error x=>exact h1
   | ok y=>
    obtain ⟨x,l2⟩:=y
    obtain ⟨hq,hm,hs⟩:=h1
    have h2:=ih (acc.app x.one) l2 (rt_snocS hacc hq) fun u hu=>ha u (hs u hu)
    simp only;generalize proL st n (acc.app x.one) l2=q2 at h2
    cases q2 with
    | error z=>exact ⟨h2.1,h2.2.imp id fun ⟨u,hu,he⟩=>⟨u,hs u hu,he⟩⟩
    | ok F=>exact ⟨h2.1,by have h3:=h2.2; rw [Fo.wt_app,Nd.wt_one] at h3; omega⟩

theorem quoR_bytes (t:List UInt8) (v:List UInt8) (n:Nat) (h:quoR t=some (v,n)):v.any badC=false∧v.length≤n:=by
 have hb:∀c:UInt8,32≤c.toNat→c.toNat≤126→badC c=false:=fun c h1 h2=>by
  unfold badC;simp;omega
 fun_induction quoR t generalizing v n with
 | case1=>cases h
 | case2=>cases h; simp
 | case3=>cases h
 | case4=>cases h
 | case5 c _ _ _ d u hd ih=>
  obtain ⟨⟨v',n'⟩,hm,he⟩:=Option.map_eq_some_iff.1 h
  cases he
  obtain ⟨h1,h2⟩:=ih _ _ hm
  refine ⟨?_,by simp; omega⟩
  rw [List.any_cons,h1,hb d (by omega) (by omega)]
  rfl
 | case6 c _ _ _ d u _ _ ih=>
  obtain ⟨⟨v',n'⟩,hm,he⟩:=Option.map_eq_some_iff.1 h
  cases he
  obtain ⟨h1,h2⟩:=ih _ _ hm
  refine ⟨?_,by simp; omega⟩
  rw [List.any_cons,h1];rfl
 | case7=>cases h
 | case8 c t _ hc _ ih=>
  obtain ⟨⟨v',n'⟩,hm,he⟩:=Option.map_eq_some_iff.1 h
  cases he
  obtain ⟨h1,h2⟩:=ih _ _ hm
  refine ⟨?_,by simp; omega⟩
  rw [List.any_cons,h1,hb c (by omega) (by omega)]
  rfl
theorem runN_all (p:UInt8→Bool) (l:List UInt8):(l.take (runN p l)).all p=true:=by
 induction l with
 | nil=>rfl
 | cons c t ih=>
  unfold runN;split
  ·rename_i h
   rw [List.take_succ_cons,List.all_cons,h,ih];rfl
  ·rfl
theorem tokP_ok {l:List UInt8} {p q:Nat} {t:Tk} (h:tokP l p=.ok (t,q)):TkOk t∧t.at_=p∧p+t.text.length≤q:=by
 unfold tokP at h;split at h
 ·cases h
 ·rename_i c u hu
  split at h
  ·rename_i hd
   unfold numT at h;split at h
   ·cases h
   ·rename_i n hn
    split at h
    ·cases h
    ·cases h
     refine ⟨⟨fun _=>?_,fun hk=>by simp at hk,fun hk=>by simp at hk⟩,rfl,?_⟩
     ·have h1:=(pu_numR (c::u) 0 n (by decide) hn).2
      unfold numV;simp only;omega
     ·simp only [List.length_take]
      omega
  ·split at h
   ·rename_i hl8
    unfold nameT at h;split at h
    ·cases h
    ·rename_i hw
     cases h
     refine ⟨⟨fun hk=>?_,fun hk=>?_,fun hk=>?_⟩,rfl,?_⟩
     ·exfalso; revert hk; simp only; split <;> simp
     ·exfalso; revert hk; simp only; split <;> simp
     ·have hr:resv ((c::u).take (wordN (c::u)))=false:=by
       by_cases hr:resv ((c::u).take (wordN (c::u)))=true
       ·simp [hr] at hk
       ·simpa using hr
      have ha:=runN_all (fun c=>let8 c||dig c) (c::u)
      have h0:wordN (c::u)=runN (fun c=>let8 c||dig c) u+1:=by
       unfold wordN;rw [runN,if_pos (by simp [hl8])]
      show isNameP _=true
      unfold isNameP;have hlen:((c::u).take (wordN (c::u))).length≤32:=by rw [List.length_take]; omega
      simp only;rw [hr];rw [show (fun c=>let8 c||dig c:UInt8→Bool)=(fun c=>let8 c||dig c) from rfl] at ha
      have e1:(c::u).take (wordN (c::u))=c::u.take (runN (fun c=>let8 c||dig c) u):=by rw [h0,List.take_succ_cons]
      rw [e1] at hlen ⊢;have ha2:(u.take (runN (fun c=>let8 c||dig c) u)).all (fun c=>let8 c||dig c)=true:=runN_all _ u
      simp only [hl8,ha2,Bool.true_and,Bool.not_false,Bool.and_true,decide_eq_true_eq];exact hlen
     ·simp only [List.length_take]
      omega
   ·split at h
    ·unfold quoT at h
     split at h
     ·cases h
     ·rename_i v n hq
      split at h
      ·cases h
      ·rename_i hv
       cases h
       obtain ⟨h1,h2⟩:=quoR_bytes _ _ _ hq
       refine ⟨⟨fun hk=>by simp at hk,fun _=>?_,fun hk=>by simp at hk⟩,rfl,by simp only; omega⟩
       unfold litOk litP;simp only [h1];rw [if_neg (by simp),if_neg (by omega)]
    ·unfold opT at h
     split at h
     ·cases h
     ·cases h
      refine ⟨⟨fun hk=>by simp at hk,fun hk=>by simp at hk,fun hk=>by simp at hk⟩,rfl,?_⟩
      simp only [List.length_take];omega
theorem toksGo_ok {l:List UInt8}:∀(f n p:Nat) (r:List Tk),p≤l.length→toksGo l f n p=.ok r→AOk r∧tw r+p≤r.length+l.length∧(∀t∈r,t.at_≤l.length):=by
 intro f;induction f with
 | zero=>intro n p r _ h; cases h
 | succ f ih=>
  intro n p r hp h;unfold toksGo at h;split at h
  ·cases h
  ·split at h
   ·rename_i hpl
    cases h
    refine ⟨fun t ht=>?_,by simp [tw]; omega,fun t ht=>?_⟩
    ·simp only [List.mem_singleton] at ht
     subst ht;exact ⟨fun hk=>by simp at hk,fun hk=>by simp at hk,fun hk=>by simp at hk⟩
    ·simp only [List.mem_singleton] at ht
     subst ht;exact Nat.le_of_eq hpl
   ·split at h
    ·cases h
    ·rename_i t q ht
     split at h
     ·cases h
     ·rename_i r' hr
      cases h
      have h1:=tokP_step _ _ _ _ ht
      have h2:=skipN_le false (l.drop q)
      rw [List.length_drop] at h2;obtain ⟨k1,k2,k3⟩:=tokP_ok ht;obtain ⟨h3,h4,h5⟩:=ih _ _ _ (by omega) hr
      refine ⟨fun u hu=>?_,by rw [tw_cons]; simp only [List.length_cons]; omega,fun u hu=>?_⟩
      ·rcases List.mem_cons.1 hu with rfl | hu
       ·exact k1
       ·exact h3 u hu
      ·rcases List.mem_cons.1 hu with rfl | hu
       ·omega
       ·exact h5 u hu
theorem toksGo_errP {l:List UInt8}:∀(f n p:Nat) (x:Nat×Nat),p≤l.length→toksGo l f n p=.error x→x.1≤l.length:=by
 intro f;induction f with
 | zero=>intro n p x hp h; cases h; exact hp
 | succ f ih=>
  intro n p x hp h;unfold toksGo at h;split at h
  ·cases h; exact hp
  ·split at h
   ·cases h
   ·split at h
    ·cases h; exact hp
    ·rename_i t q ht
     split at h
     ·rename_i y hy
      cases h
      have h1:=tokP_step _ _ _ _ ht
      have h2:=skipN_le false (l.drop q)
      rw [List.length_drop] at h2;exact ih _ _ _ (by omega) hy
     ·cases h
theorem toksP_ok {l:List UInt8} {r:List Tk} (h:toksP l=.ok r):AOk r∧tw r≤20480∧(∀t∈r,t.at_≤l.length):=by
 have h0:=(toksP_end h).2
 unfold toksP at h;split at h
 ·cases h
 ·obtain ⟨h1,h2,h3⟩:=toksGo_ok _ _ _ _ (skipN_le false l) h
  exact ⟨h1,by omega,h3⟩
theorem proP_ok {s:List UInt8} {F:Fo} (h:proP s=.ok F):rt .st F=true∧F.wt≤20480:=by
 unfold proP at h;split at h
 ·cases h
 ·rename_i l hl
  obtain ⟨h1,h2,h3⟩:=toksP_ok hl
  have h4:=proL_good (sbP_good 64).1 l.length .nil l rfl h1
  rw [h] at h4;exact ⟨h4.1,by have h5:=h4.2; simp only [Fo.wt] at h5; omega⟩
theorem proP_bad {s:List UInt8} {x:Nat×Nat} (h:proP s=.error x):x.2≠0∧x.1≤s.length:=by
 unfold proP at h;split at h
 ·rename_i y hy
  cases h
  refine ⟨toksP_err hy,?_⟩
  unfold toksP at hy;split at hy
  ·cases hy; exact Nat.zero_le _
  ·exact toksGo_errP _ _ _ _ (skipN_le false s) hy
 ·rename_i l hl
  obtain ⟨h1,h2,h3⟩:=toksP_ok hl
  have h4:=proL_good (sbP_good 64).1 l.length .nil l rfl h1
  rw [h] at h4;refine ⟨by omega,?_⟩
  rcases h4.2 with h5 | ⟨t,ht,he⟩
  ·omega
  ·rw [he]; exact h3 t ht
theorem sum_ge {l:List (List UInt8)} {s:List UInt8} (h:s∈l):s.length≤(l.map fun n=>1+n.length).sum:=by
 induction l with
 | nil=>cases h
 | cons a l ih=>
  simp only [List.map_cons,List.sum_cons];rcases List.mem_cons.1 h with rfl | h
  ·omega
  ·have:=ih h; omega
theorem FoB_wt:∀(F:Fo) (M:Nat),F.wt≤M→M≤1048576→FoB F:=by
 intro F;induction F with
 | nil=>intro _ _ _; trivial
 | cons h k r ihk ihr=>
  intro M hM hb;simp only [Fo.wt,Hd.wt] at hM;refine ⟨by omega,fun s hs=>?_,ihk M (by omega) hb,ihr M (by omega) hb⟩
  have:=sum_ge hs
  omega
theorem size_wt (F:Fo):F.size≤F.wt:=by
 induction F with
 | nil=>exact Nat.le_refl _
 | cons h k r ihk ihr=>simp only [Fo.size,Fo.wt,Hd.wt]; omega

def cm:List UInt8:=[44,32]
def opW (b:Bool) (t:List UInt8):List UInt8:=if b then [40]++t++[41] else t
abbrev Xt:=Hd×List UInt8
def weakB (h:Hd) (least:Nat):Bool:=decide (h.kind=6)&&decide (stren h.text < least)
def leastS (t:List UInt8):Nat:=if stren t=3 then 4 else stren t
def litT (l:List UInt8):List UInt8:=match litP l with | .ok t=>t | .error _=>[]
def lisT (b:UInt8) (ks:List Xt) (e:UInt8):List UInt8:=[b]++Lib.join (ks.map (·.2)) cm++[e]
def exOne (h:Hd) (ks:List Xt):List UInt8:=
 if h.kind=1 then Lib.itoa h.num
 else if h.kind=2 then litT h.text
 else if h.kind=3 then h.text
 else if h.kind=9 then [116,114,117,101]
 else if h.kind=10 then [102,97,108,115,101]
 else if h.kind=4 then lisT 91 ks 93
 else if h.kind=7 then h.text++lisT 40 ks 41
 else match ks with
  | []=>[]
  | (h0,t0)::r=>
   if h.kind=5 then h.text++opW (decide (h0.kind=6)) t0
   else if h.kind=8 then opW (decide (h0.kind=6)||decide (h0.kind=5)) t0++lisT 91 r 93
   else match r with
    | []=>[]
    | (h1,t1)::_=>opW (weakB h0 (leastS h.text)) t0++([32]++h.text++[32])++opW (weakB h1 (stren h.text+1)) t1
def exT:Fo→List Xt
 | .nil=>[]
 | .cons h k r=>(h,exOne h (exT k))::exT r
theorem exT_app (A R:Fo):exT (A.app R)=exT A++exT R:=by
 induction A with
 | nil=>rfl
 | cons h k r _ ih=>simp only [Fo.app,exT,ih,List.cons_append]
theorem exT_len (F:Fo):(exT F).length=F.len:=by
 induction F with
 | nil=>rfl
 | cons h k r _ ih=>simp only [exT,List.length_cons,ih,Fo.len]
structure Nt where
 hd:Hd
 ex:List UInt8
 st:Nat→List UInt8
def ind (d:Nat):List UInt8:=(List.replicate d [32,32]).flatten
def lnT (ks:List Nt) (d:Nat):List UInt8:=(ks.map fun k=>ind d++k.st d++[10]).flatten
def ex0 (ks:List Nt) (i:Nat):List UInt8:=match ks[i]? with | some k=>k.ex | none=>[]
def st0 (ks:List Nt) (i d:Nat):List UInt8:=match ks[i]? with | some k=>k.st d | none=>[]
def stOne (h:Hd) (ks:List Nt) (d:Nat):List UInt8:=
 if h.kind=20 then [108,101,116,32]++(h.text++[32,61,32]++ex0 ks 0++[59])
 else if h.kind=21 then h.text++[32,61,32]++ex0 ks 0++[59]
 else if h.kind=22 then [105,102,32]++ex0 ks 0++[32]++st0 ks 1 d++(if ks.length=3 then [32,101,108,115,101,32]++st0 ks 2 d else [])
 else if h.kind=23 then [119,104,105,108,101,32]++ex0 ks 0++[32]++st0 ks 1 d
 else if h.kind=24 then ([102,111,114,32]++h.text++[32,105,110,32])++ex0 ks 0++[32,46,46,32]++ex0 ks 1++[32]++st0 ks 2 d
 else if h.kind=25 then [123,10]++lnT ks (d+1)++ind d++[125]
 else if h.kind=26 then ([102,110,32]++h.text++[40]++Lib.join h.names cm++[41,32])++st0 ks 0 d
 else if h.kind=27 then [114,101,116,117,114,110]++(if ks.length=0 then [] else [32]++ex0 ks 0)++[59]
 else if h.kind=28 then ex0 ks 0++[59]
 else if h.kind=29 then [98,114,101,97,107,59]
 else []
def ntT:Fo→List Nt
 | .nil=>[]
 | .cons h k r=>⟨h,exOne h (exT k),stOne h (ntT k)⟩::ntT r
theorem ntT_app (A R:Fo):ntT (A.app R)=ntT A++ntT R:=by
 induction A with
 | nil=>rfl
 | cons h k r _ ih=>simp only [Fo.app,ntT,ih,List.cons_append]
theorem ntT_len (F:Fo):(ntT F).length=F.len:=by
 induction F with
 | nil=>rfl
 | cons h k r _ ih=>simp only [ntT,List.length_cons,ih,Fo.len]
def txF (F:Fo):List UInt8:=lnT (ntT F) 0
def prtP (F:Fo):Except Nat (List UInt8):=
 if rt .st F=false then .error 1 else if 16384 < (txF F).length then .error 3 else match proP (txF F) with | .error x=>.error x.2 | .ok _=>.ok (txF F)
def Cut (a b:List UInt8):Prop:=a=b∨(16384 < a.length∧a.length≤b.length)
theorem Cut.refl (a:List UInt8):Cut a a:=Or.inl rfl
theorem Cut.le {a b:List UInt8} (h:Cut a b):a.length≤b.length:=by rcases h with rfl | h; exact Nat.le_refl _; exact h.2
theorem Cut.step {a b c t:List UInt8} (h:Cut a b) (h':Cut c (a++t)):Cut c (b++t):=by
 rcases h with rfl | ⟨h1,h2⟩
 ·exact h'
 ·rcases h' with rfl | ⟨h3,h4⟩
  ·exact Or.inr ⟨by simp; omega,by simp; omega⟩
  ·exact Or.inr ⟨h3,by simp at h4 ⊢; omega⟩
end Go.Proofs.YtbaidkefobhipaaGreatDoor
