/-
  Plain law: the text of a right program is read as the same program, or it is too long or too deep.
  Plain law: the same trees have the same text.
  Plain: printing, reading and printing again.
-/
import Derived.Test.YtbaidkefobhipaaGreatDoorZS41
import Derived.Test.YtbaidkefobhipaaGreatDoorZS8
namespace Go.Proofs.YtbaidkefobhipaaGreatDoor

def begK (q:Ky):Bool:=decide (q.1=1∨q.1=2∨q.1=3)||
  [bytes [108,101,116],bytes [105,102],bytes [119,104,105,108,101],bytes [102,111,114],bytes [102,110],bytes [114,101,116,117,114,110],bytes [98,114,101,97,107],bytes [123],bytes [45],bytes [33],bytes [40],bytes [91],
   bytes [116,114,117,101],bytes [102,97,108,115,101]].any fun s=>isK s q
theorem begT_mk (k a:Nat) (x:List UInt8) (r:List Tk):begT (⟨k,x,a⟩::r)=begK (k,x):=rfl
theorem begK_of_okH {q:Ky} (h:okH q=true):begK q=true:=by
 unfold okH at h
 unfold begK
 obtain ⟨a,b⟩:=q
 simp only [Bool.or_eq_true,decide_eq_true_eq,List.mem_cons,Prod.mk.injEq,List.not_mem_nil,or_false] at h
 rcases h with ((h | h) | h) | h
 ·simp [h]
 ·simp [h]
 ·simp [h]
 ·rcases h with ⟨rfl,rfl⟩ | ⟨rfl,rfl⟩ | ⟨rfl,rfl⟩ | ⟨rfl,rfl⟩ | ⟨rfl,rfl⟩ | ⟨rfl,rfl⟩ <;> decide
theorem begK_not {q:Ky} (h:begK q=true) (e:List UInt8) (he:(!([bytes [108,101,116],bytes [105,102],bytes [119,104,105,108,101],bytes [102,111,114],bytes [102,110],bytes [114,101,116,117,114,110],bytes [98,114,101,97,107],bytes [123],bytes [45],bytes [33],bytes [40],bytes [91],
   bytes [116,114,117,101],bytes [102,97,108,115,101]]:List (List UInt8)).contains e)=true):isK e q=false∧q.1≠0:=by
 obtain ⟨a,b⟩:=q
 unfold begK at h
 rw [Bool.or_eq_true,decide_eq_true_eq,List.any_eq_true] at h
 rcases h with h | ⟨s,hs,h⟩
 ·simp only at h
  exact ⟨isK_num (by omega) (by omega),by simp only; omega⟩
 ·unfold isK at h
  rw [Bool.and_eq_true,Bool.or_eq_true,decide_eq_true_eq,decide_eq_true_eq,decide_eq_true_eq] at h
  simp only at h
  obtain ⟨h1,rfl⟩:=h
  refine ⟨?_,by simp only; omega⟩
  cases hc:isK e (a,b) with
  | false=>rfl
  | true=>
   unfold isK at hc
   rw [Bool.and_eq_true] at hc
   have:=of_decide_eq_true hc.2
   simp only at this
   subst this
   rw [Bool.not_eq_true',← Bool.not_eq_true,List.contains_iff_mem] at he
   exact absurd hs he
abbrev ELSE:List UInt8:=bytes [101,108,115,101]
def SCl (h:Hd) (k:Fo):Prop:=∀(b d:Nat) (ts r:List Tk),ts.map Tk.ky=kys (stPc h (npP k) b)→Nxt ELSE r→Res ((sbP d).1 (ts++r)) (h,k) r
def ICl (h:Hd) (k:Fo):Prop:=∀(b d:Nat) (ts r:List Tk),ts.map Tk.ky=kys (stPc h (npP k) b)→Nxt ELSE r→Res ((sbP d).2 (ts++r)) (h,k) r
def BCl (h:Hd) (k:Fo):Prop:=∀(b d:Nat) (ts r:List Tk),ts.map Tk.ky=kys (stPc h (npP k) b)→Res (blkP (sbP d).1 (ts++r)) (h,k) r
def Beg (h:Hd) (k:Fo):Prop:=∀b,∃q t,kys (stPc h (npP k) b)=q::t∧begK q=true
def AllS:Fo→Prop
 | .nil=>True
 | .cons h k r=>SCl h k∧Beg h k∧AllS r
theorem sb_zero {q:Ky} (h:begK q=true) (a:Nat) (r:List Tk):Dp ((sbP 0).1 (⟨q.1,q.2,a⟩::r)):=by
 show Dp (if begT (⟨q.1,q.2,a⟩::r) then failT 12 _ else failT 18 _)
 rw [begT_mk,h,if_pos rfl]
 exact ⟨a,rfl⟩
theorem dp_fail {α:Type} (l:List Tk):Dp (failT (α:=α) 12 l):=by
 cases l with
 | nil=>exact ⟨0,rfl⟩
 | cons t r=>exact ⟨t.at_,rfl⟩
theorem kys_ln (h:Hd) (k r:Fo) (b:Nat):kys (lnP (npP (.cons h k r)) b)=kys (stPc h (npP k) b)++kys (lnP (npP r) b):=by
 rw [show lnP (npP (.cons h k r)) b=(indP b++stPc h (npP k) b++[.bl [10]])++lnP (npP r) b from rfl,kys_app,kys_app,kys_app]
 rw [show kys (indP b)=[] from rfl,show kys [Pc.bl [10]]=[] from rfl]
 simp
theorem nx_else {r:List Tk} {F:Fo} {b:Nat} {ts:List Tk} {q:Ky} (hA:AllS F) (hk:ts.map Tk.ky=kys (lnP (npP F) b)++[q]) (hq:isK ELSE q=false):Nxt ELSE (ts++r):=by
 cases F with
 | nil=>
  obtain ⟨a,t1,rfl,-⟩:=kcons (k:=q) hk
  exact hq
 | cons h k F=>
  obtain ⟨-,hb,-⟩:=hA
  obtain ⟨p,t,h1,h2⟩:=hb b
  rw [kys_ln,h1] at hk
  obtain ⟨a,t1,rfl,-⟩:=kcons (k:=p) (by simpa using hk)
  exact (begK_not h2 _ (by decide)).1
theorem blk_tail {d b:Nat}:∀(F:Fo),AllS F→∀(n:Nat) (A G:Fo) (ts r:List Tk),F.len < n→Fo.sameF A G=true→ts.map Tk.ky=kys (lnP (npP F) b)++[(4,[125])]→KRes (blkL (sbP d).1 n G (ts++r)) (A.app F) r:=by
 intro F
 induction F with
 | nil=>
  intro _ n A G ts r hn hs hk
  obtain ⟨n,rfl⟩:∃m,n=m+1:=⟨n - 1,by omega⟩
  obtain ⟨a,t1,rfl,e1⟩:=kcons (k:=(4,[125])) hk
  obtain rfl:=knil e1
  rw [List.cons_append,List.nil_append,Fo.app_nil]
  refine Or.inr ⟨G,?_,hs⟩
  simp only [blkL]
  rw [isT_mk,if_pos (by decide)]
  rfl
 | cons h k F _ ih=>
  intro hA n A G ts r hn hs hk
  obtain ⟨hS,hB,hA⟩:=hA
  obtain ⟨n,rfl⟩:∃m,n=m+1:=⟨n - 1,by omega⟩
  rw [kys_ln,List.append_assoc] at hk
  obtain ⟨t1,t2,rfl,e1,e2⟩:=kapp hk
  obtain ⟨q,qt,hq,hqb⟩:=hB b
  have hr:=hS b d t1 (t2++r) e1 (nx_else hA e2 (by decide))
  rw [hq] at e1
  obtain ⟨a,t3,rfl,e3⟩:=kcons e1
  simp only [List.append_assoc,List.cons_append] at hr ⊢
  simp only [blkL]
  rw [isT_mk,if_neg (by rw [(begK_not hqb _ (by decide)).1]; decide)]
  rcases hr with hr | ⟨y,hr,hm⟩
  ·exact Or.inl (hr.thn _)
  rw [hr,bthn_ok]
  have:=ih hA n (A.app (Nd.one (h,k))) (G.app y.one) t2 r (by simp only [Fo.len] at hn; omega) (sameF_app hs hm) e2
  rw [Fo.app_assoc] at this
  exact this
theorem ln_len (b:Nat):∀(F:Fo),AllS F→F.len≤(kys (lnP (npP F) b)).length:=by
 intro F
 induction F with
 | nil=>intro _; exact Nat.zero_le _
 | cons h k F _ ih=>
  intro hA
  obtain ⟨-,hB,hA⟩:=hA
  obtain ⟨q,qt,hq,-⟩:=hB b
  rw [kys_ln,hq]
  have:=ih hA
  simp only [Fo.len,List.length_cons,List.length_append]
  omega
theorem bcl_of {h:Hd} {k:Fo} (hkd:h.kind=25) (ht:h.text=[]) (hn:h.num=0) (hnm:h.names=[]) (hA:AllS k):BCl h k:=by
 intro b d ts r hk
 have hs:stPc h (npP k) b=sg [123]::.bl [10]::(lnP (npP k) (b+1)++(indP b++[sg [125]])):=by
  unfold stPc
  rw [if_neg (by omega),if_neg (by omega),if_neg (by omega),if_neg (by omega),if_neg (by omega),if_pos hkd]
  rfl
 rw [hs,kys_sg,kys_bl,kys_app] at hk
 obtain ⟨a,t1,rfl,e1⟩:=kcons hk
 have hlen:k.len < (t1++r).length+1:=by
  have h1:=ln_len (b+1) k hA
  have h2:=congrArg List.length e1
  simp only [List.length_map,List.length_append] at h2 ⊢
  omega
 rw [List.cons_append]
 unfold blkP
 simp only
 rw [expT_mk (by decide),bthn_ok]
 rcases blk_tail k hA ((t1++r).length+1) .nil .nil t1 r hlen rfl e1 with hr | ⟨G,hr,hm⟩
 ·exact Or.inl (hr.thn _)
 ·refine Or.inr ⟨_,?_,sm_mk (h':=hdT 25 [] 0 a) hkd ht hn hnm hm⟩
  rw [hr,bthn_ok]
theorem namT_mk (s:List UInt8) (a:Nat) (r:List Tk):namT (⟨3,s,a⟩::r)=.ok (s,r):=rfl
theorem par_tail:∀(l:List (List UInt8)) (n:Nat) (acc:List (List UInt8)) (ts r:List Tk),l.length < n→acc.length≠0→ts.map Tk.ky=kys (comT (l.map fun s=>[nam s]))++[(4,[41])]→parL n acc (ts++r)=.ok (acc++l,r):=by
 intro l
 induction l with
 | nil=>
  intro n acc ts r hn _ hk
  obtain ⟨n,rfl⟩:∃m,n=m+1:=⟨n - 1,by omega⟩
  obtain ⟨a,t1,rfl,e1⟩:=kcons (k:=(4,[41])) hk
  obtain rfl:=knil e1
  rw [List.cons_append,List.nil_append,List.append_nil]
  simp only [parL]
  rw [isT_mk,if_pos (by decide)]
  rfl
 | cons s l ih=>
  intro n acc ts r hn ha hk
  obtain ⟨n,rfl⟩:∃m,n=m+1:=⟨n - 1,by omega⟩
  rw [List.map_cons,kys_comT,kys_nam] at hk
  obtain ⟨a,t1,rfl,e1⟩:=kcons hk
  obtain ⟨b,t2,rfl,e2⟩:=kcons (k:=(3,s)) e1
  simp only [List.cons_append,parL]
  rw [isT_mk,if_neg (by decide),if_neg ha,expT_mk (by decide),bthn_ok,bthn_ok,namT_mk,bthn_ok,ih n (acc++[s]) t2 r (by simp at hn; omega) (by simp) e2]
  simp
theorem par_all {l:List (List UInt8)} {n:Nat} {ts r:List Tk} (hn:ts.length≤n) (hk:ts.map Tk.ky=kys (comP (l.map fun s=>[nam s]))++[(4,[41])]):parL n [] (ts++r)=.ok (l,r):=by
 cases l with
 | nil=>
  obtain ⟨a,t1,rfl,e1⟩:=kcons (k:=(4,[41])) hk
  obtain rfl:=knil e1
  obtain ⟨n,rfl⟩:∃m,n=m+1:=⟨n - 1,by simp at hn; omega⟩
  rw [List.cons_append,List.nil_append]
  simp only [parL]
  rw [isT_mk,if_pos (by decide)]
  rfl
 | cons s l=>
  rw [List.map_cons,show comP ([nam s]::l.map (fun s=>[nam s]))=[nam s]++comT (l.map (fun s=>[nam s])) from rfl,kys_app,List.append_assoc] at hk
  obtain ⟨a,t1,rfl,e0⟩:=kcons (k:=(3,s)) hk
  have e1:t1.map Tk.ky=kys (comT (l.map fun s=>[nam s]))++[(4,[41])]:=e0
  have hl:l.length+1 < n:=by
   have h3:=congrArg List.length e1
   have h4:=comT_len (l.map fun s=>[nam s])
   simp only [List.length_map,List.length_append,List.length_cons,List.length_nil] at h3 h4 hn
   omega
  obtain ⟨n,rfl⟩:∃m,n=m+1:=⟨n - 1,by omega⟩
  simp only [List.cons_append,parL]
  rw [isT_mk,if_neg (by rw [isK_num (by decide) (by decide)]; decide),if_pos (by rfl),bthn_ok,namT_mk,bthn_ok,par_tail l n _ t1 r (by omega) (by simp) e1]
  simp
/-! Statements. -/
theorem stp_kw (k a:Nat) (x:List UInt8) (hc:(!isK (bytes [91]) (k,x)&&!isK (bytes [40]) (k,x)&&decide (stren x=0))=true) (r:List Tk):Stp 1 (⟨k,x,a⟩::r):=by
 simp only [Bool.and_eq_true,Bool.not_eq_true',decide_eq_true_eq] at hc
 exact ⟨hc.1.1,hc.1.2,fun _=>by show stren x < 1; omega⟩
theorem beg_of {h:Hd} {k:Fo} {q:Ky} (hq:begK q=true) (hs:∀b,∃t,kys (stPc h (npP k) b)=q::t):Beg h k:=fun b=>by
 obtain ⟨t,ht⟩:=hs b
 exact ⟨q,t,ht,hq⟩
theorem sb_st (d:Nat):(sbP (d+1)).1=staP (expP d) (sbP d).1 (ifP (expP d) (sbP d).1 (sbP d).2):=rfl
theorem sb_if (d:Nat):(sbP (d+1)).2=ifP (expP d) (sbP d).1 (sbP d).2:=rfl
theorem asg_res {h0:Hd} {k0:Fo} (e1:exH h0 k0.len=true) (e2:rt .ex k0=true) {d:Nat} {kind:Int} {p:Nat} {s:List UInt8} {ts r:List Tk} (hk:ts.map Tk.ky=(3,s)::(4,[61])::(kys (exPc h0 (exP k0))++[(4,[59])])):
  Dp (asgP (expP d) kind p (ts++r))∨∃y,asgP (expP d) kind p (ts++r)=.ok ((hdT kind s 0 p,y.one),r)∧Sm (h0,k0) y:=by
 obtain ⟨a,t1,rfl,f1⟩:=kcons hk
 obtain ⟨b,t2,rfl,f2⟩:=kcons f1
 obtain ⟨t3,t4,rfl,f3,f4⟩:=kapp f2
 obtain ⟨c,t5,rfl,f5⟩:=kcons f4
 obtain rfl:=knil f5
 unfold asgP
 simp only [List.cons_append,List.append_assoc,List.nil_append]
 rw [namT_mk,bthn_ok,expT_mk (by decide),bthn_ok]
 rcases ex_res e1 e2 f3 (stp_sg [59] (by decide) c r) with hr | ⟨y,hr,hm⟩
 ·exact Or.inl (hr.thn _)
 ·refine Or.inr ⟨y,?_,hm⟩
  rw [hr,bthn_ok,expT_mk (by decide),bthn_ok]
theorem scl_all:∀(N:Nat) (h:Hd) (k:Fo),k.size < N→stH h=true→rt (kidM h k.len) k=true→SCl h k∧Beg h k∧(h.kind=22→ICl h k)∧(h.kind=25→BCl h k):=by
 intro N
 induction N with
 | zero=>intro h k hN; omega
 | succ N ih=>
  intro h k hN hh hk
  have hh2:=hh
  unfold stH at hh
  simp only [Bool.and_eq_true,decide_eq_true_eq] at hh
  obtain ⟨⟨⟨⟨hkind,hnum⟩,hnam⟩,htx⟩,hnms⟩:=hh
  have hnm:h.kind≠26→h.names=[]:=fun hc=>by simpa [hc] using hnam
  unfold kidM at hk
  by_cases c0:h.kind=20
  ·rw [if_pos (Or.inl c0)] at hk htx
   obtain ⟨h0,k0,r,rfl,e1,e2,e3⟩:=rt_ex1 hk
   obtain rfl:=rt_nil1 e3
   have hs:∀b,kys (stPc h (npP (.cons h0 k0 .nil)) b)=(5,[108,101,116])::(3,h.text)::(4,[61])::(kys (exPc h0 (exP k0))++[(4,[59])]):=fun b=>by
    unfold stPc
    rw [if_pos c0,kys_wd,kys_sp,kys_nam,kys_sp,kys_sg,kys_sp,kys_app]
    rfl
   refine ⟨fun b d ts r ht _=>?_,beg_of (by decide) fun b=>⟨_,hs b⟩,fun hc=>by omega,fun hc=>by omega⟩
   rw [hs] at ht
   obtain ⟨a,t1,rfl,f1⟩:=kcons ht
   rw [List.cons_append]
   cases d with
   | zero=>exact Or.inl (sb_zero (q:=(5,[108,101,116])) (by decide) _ _)
   | succ d=>
    rw [sb_st]
    simp only [staP]
    rw [begT_mk,if_neg (by decide),isT_mk,if_pos (by decide)]
    rcases asg_res e1 e2 (d:=d) (kind:=20) (p:=a) (r:=r) f1 with hr | ⟨y,hr,hm⟩
    ·exact Or.inl hr
    ·exact Or.inr ⟨_,hr,sm_mk c0 rfl hnum (hnm (by omega)) hm⟩
  by_cases c1:h.kind=21
  ·rw [if_pos (Or.inr (Or.inl c1))] at hk htx
   obtain ⟨h0,k0,r,rfl,e1,e2,e3⟩:=rt_ex1 hk
   obtain rfl:=rt_nil1 e3
   have hs:∀b,kys (stPc h (npP (.cons h0 k0 .nil)) b)=(3,h.text)::(4,[61])::(kys (exPc h0 (exP k0))++[(4,[59])]):=fun b=>by
    unfold stPc
    rw [if_neg c0,if_pos c1,kys_nam,kys_sp,kys_sg,kys_sp,kys_app]
    rfl
   have hbq:begK (3,h.text)=true:=by unfold begK; simp
   refine ⟨fun b d ts r ht _=>?_,beg_of hbq fun b=>⟨_,hs b⟩,fun hc=>by omega,fun hc=>by omega⟩
   rw [hs] at ht
   have ht2:=ht
   obtain ⟨a,t1,rfl,f1⟩:=kcons ht
   obtain ⟨a1,t2,rfl,f2⟩:=kcons f1
   cases d with
   | zero=>exact Or.inl (sb_zero (q:=(3,h.text)) hbq _ _)
   | succ d=>
    have hi:∀s,isK s (3,h.text)=false:=fun s=>isK_num (by decide) (by decide)
    have hr:=asg_res e1 e2 (d:=d) (kind:=21) (p:=a) (r:=r) ht2
    simp only [List.cons_append] at hr ⊢
    rw [sb_st]
    simp only [staP]
    rw [begT_mk,hbq,if_neg (by decide)]
    simp only [isT_mk,hi]
    rw [if_neg (by decide),if_neg (by decide),if_neg (by decide),if_neg (by decide),if_neg (by decide),if_neg (by decide),if_neg (by decide),if_neg (by decide),if_pos (by rfl)]
    rcases hr with hr | ⟨y,hr,hm⟩
    ·exact Or.inl hr
    ·exact Or.inr ⟨_,hr,sm_mk c1 rfl hnum (hnm (by omega)) hm⟩
  by_cases c8:h.kind=28
  ·rw [if_pos (Or.inr (Or.inr c8))] at hk
   rw [if_neg (by omega)] at htx
   obtain ⟨h0,k0,r,rfl,e1,e2,e3⟩:=rt_ex1 hk
   obtain rfl:=rt_nil1 e3
   obtain ⟨⟨q,qt,hq,hqo⟩,hne⟩:=ke_nd e1 e2
   have hbq:=begK_of_okH hqo
   have hs:∀b,kys (stPc h (npP (.cons h0 k0 .nil)) b)=kys (exPc h0 (exP k0))++[(4,[59])]:=fun b=>by
    unfold stPc
    rw [if_neg c0,if_neg c1,if_neg (by omega),if_neg (by omega),if_neg (by omega),if_neg (by omega),if_neg (by omega),if_neg (by omega),if_pos c8,kys_app]
    rfl
   refine ⟨fun b d ts r ht _=>?_,beg_of hbq fun b=>⟨_,by rw [hs b,hq]; rfl⟩,fun hc=>by omega,fun hc=>by omega⟩
   rw [hs] at ht
   obtain ⟨t1,t2,rfl,f1,f2⟩:=kapp ht
   have hr:=fun d=>ex_res e1 e2 (d:=d) f1 (r:=t2++r)
   have hne2:∀t∈t1,t.ky≠(4,[61]):=fun t hm=>hne _ (by rw [← f1]; exact List.mem_map_of_mem hm)
   rw [hq] at f1
   obtain ⟨a,t3,rfl,f3⟩:=kcons f1
   obtain ⟨c,t4,rfl,f4⟩:=kcons f2
   obtain rfl:=knil f4
   simp only [List.cons_append,List.append_assoc,List.nil_append] at hr ⊢
   cases d with
   | zero=>exact Or.inl (sb_zero hbq _ _)
   | succ d=>
    have hi:∀s,(!([[116,114,117,101],[102,97,108,115,101],[91],[40],[45],[33]]:List (List UInt8)).contains s)=true→isK s q=false:=fun s hs=>okH_not hqo s hs
    rw [sb_st]
    simp only [staP]
    rw [begT_mk,hbq,if_neg (by decide),if_neg (by rw [isT_mk,hi _ (by decide)]; decide),if_neg (by rw [isT_mk,hi _ (by decide)]; decide),if_neg (by rw [isT_mk,hi _ (by decide)]; decide),if_neg (by rw [isT_mk,hi _ (by decide)]; decide),if_neg (by rw [isT_mk,hi _ (by decide)]; decide),if_neg (by rw [isT_mk,hi _ (by decide)]; decide),if_neg (by rw [isT_mk,hi _ (by decide)]; decide),if_neg (by rw [isT_mk,hi _ (by decide)]; decide),if_neg]
    ·rcases hr d (stp_sg [59] (by decide) c r) with hr | ⟨y,hr,hm⟩
     ·exact Or.inl (Dp.thn hr _)
     ·rw [hr,bthn_ok,expT_mk (by decide),bthn_ok]
      exact Or.inr ⟨_,rfl,sm_mk c8 (List.isEmpty_iff.1 htx) hnum (hnm (by omega)) hm⟩
    ·have key:∀u∈(t3++[⟨4,[59],c⟩]:List Tk),u.ky≠(4,[61]):=fun u hu=>by
      rcases List.mem_append.1 hu with hu | hu
      ·exact hne2 u (List.mem_cons_of_mem _ hu)
      ·simp at hu
       rw [hu]
       exact (show ((4,[59]):Ky)≠(4,[61]) by decide)
     cases t3 with
     | nil=>simp [assT]; intro; decide
     | cons u t3=>
      have:=key u (by simp)
      simp only [List.cons_append,assT,Bool.and_eq_true,decide_eq_true_eq]
      rintro ⟨⟨-,h2⟩,h3⟩
      exact this (by unfold Tk.ky; rw [h2,h3]; rfl)
  rw [if_neg (by omega)] at hk
  by_cases c2:h.kind=22
  ·rw [if_pos c2] at hk
   rw [if_neg (by omega)] at htx
   have key:∀b,∃t,kys (stPc h (npP k) b)=(5,[105,102])::t:=fun b=>by
    unfold stPc
    rw [if_neg c0,if_neg c1,if_pos c2,kys_wd]
    exact ⟨_,rfl⟩
   have hif:∀(b d:Nat) (ts r:List Tk),ts.map Tk.ky=kys (stPc h (npP k) b)→Nxt ELSE r→Res (ifP (expP d) (sbP d).1 (sbP d).2 (ts++r)) (h,k) r:=fun b d ts r ht hn=>by
    by_cases h3:k.len=3
    ·rw [if_pos h3] at hk
     obtain ⟨h0,k0,r0,rfl,e1,e2,e3⟩:=rt_ex1 hk
     obtain ⟨h1,k1,r1,rfl,f0,f1,f2,f3⟩:=rt_bl1 e3
     obtain ⟨h2,k2,r2,rfl,g0,g1,g2,g3⟩:=rt_bi1 f3
     obtain rfl:=rt_nil1 g3
     simp only [Fo.size] at hN
     have i1:=(ih h1 k1 (by omega) f1 f2).2.2.2 f0
     have i2:=ih h2 k2 (by omega) g1 g2
     have hs:kys (stPc h (npP (.cons h0 k0 (.cons h1 k1 (.cons h2 k2 .nil)))) b)=(5,[105,102])::(kys (exPc h0 (exP k0))++(kys (stPc h1 (npP k1) b)++(5,[101,108,115,101])::kys (stPc h2 (npP k2) b))):=by
      unfold stPc
      rw [if_neg c0,if_neg c1,if_pos c2,kys_wd,kys_sp,kys_app,kys_sp,kys_app,if_pos (by rfl),kys_sp,kys_wd,kys_sp]
      rfl
     rw [hs] at ht
     obtain ⟨a,t1,rfl,q1⟩:=kcons ht
     obtain ⟨t2,t3,rfl,q2,q3⟩:=kapp q1
     obtain ⟨t4,t5,rfl,q4,q5⟩:=kapp q3
     obtain ⟨c,t6,rfl,q6⟩:=kcons q5
     have hblk:∀b,∃t,kys (stPc h1 (npP k1) b)=(4,[123])::t:=fun b=>by
      unfold stPc
      rw [if_neg (by omega),if_neg (by omega),if_neg (by omega),if_neg (by omega),if_neg (by omega),if_pos f0]
      exact ⟨_,rfl⟩
     have hst:Stp 1 (t4++(⟨5,[101,108,115,101],c⟩::(t6++r))):=by
      obtain ⟨t,hb⟩:=hblk b
      rw [hb] at q4
      obtain ⟨e,t7,rfl,-⟩:=kcons q4
      exact stp_sg [123] (by decide) _ _
     simp only [List.cons_append,List.append_assoc]
     unfold ifP
     rw [expT_mk (by decide),bthn_ok]
     rcases ex_res e1 e2 (d:=d) q2 hst with hr | ⟨y0,hr,m0⟩
     ·exact Or.inl (hr.thn _)
     rw [hr,bthn_ok]
     rcases i1 b d t4 (⟨5,[101,108,115,101],c⟩::(t6++r)) q4 with hr | ⟨y1,hr,m1⟩
     ·exact Or.inl (hr.thn _)
     rw [hr,bthn_ok,isT_mk,if_pos (by decide)]
     have fin:∀y2,Sm (h2,k2) y2→Sm (h,.cons h0 k0 (.cons h1 k1 (.cons h2 k2 .nil))) (hdT 22 [] 0 a,(y0.one.app y1.one).app y2.one):=fun y2 m2=>
      sm_mk c2 (List.isEmpty_iff.1 htx) hnum (hnm (by omega)) (sameF_app (sameF_app m0 m1) m2)
     rcases g0 with g0 | g0
     ·have hb2:∃t,kys (stPc h2 (npP k2) b)=(4,[123])::t:=by
       unfold stPc
       rw [if_neg (by omega),if_neg (by omega),if_neg (by omega),if_neg (by omega),if_neg (by omega),if_pos g0]
       exact ⟨_,rfl⟩
      have hno:isT (bytes [105,102]) (t6++r)=false:=by
       obtain ⟨t,hb⟩:=hb2
       rw [hb] at q6
       obtain ⟨e,t7,rfl,-⟩:=kcons q6
       rw [List.cons_append,isT_mk]
       decide
      show Res (if isT (bytes [105,102]) (t6++r) then _ else _) _ _
      rw [hno,if_neg (by decide)]
      rcases i2.2.2.2 g0 b d t6 r q6 with hr | ⟨y2,hr,m2⟩
      ·exact Or.inl (Dp.thn hr _)
      ·exact Or.inr ⟨_,by show thenT (blkP (sbP d).1 (t6++r)) _=_; rw [hr,bthn_ok],fin y2 m2⟩
     ·have hb2:∃t,kys (stPc h2 (npP k2) b)=(5,[105,102])::t:=by
       unfold stPc
       rw [if_neg (by omega),if_neg (by omega),if_pos g0]
       exact ⟨_,rfl⟩
      have hno:isT (bytes [105,102]) (t6++r)=true:=by
       obtain ⟨t,hb⟩:=hb2
       rw [hb] at q6
       obtain ⟨e,t7,rfl,-⟩:=kcons q6
       rw [List.cons_append,isT_mk]
       decide
      show Res (if isT (bytes [105,102]) (t6++r) then _ else _) _ _
      rw [hno,if_pos rfl]
      rcases i2.2.2.1 g0 b d t6 r q6 hn with hr | ⟨y2,hr,m2⟩
      ·exact Or.inl (Dp.thn hr _)
      ·exact Or.inr ⟨_,by show thenT ((sbP d).2 (t6++r)) _=_; rw [hr,bthn_ok],fin y2 m2⟩
    ·rw [if_neg h3] at hk
     obtain ⟨h0,k0,r0,rfl,e1,e2,e3⟩:=rt_ex1 hk
     obtain ⟨h1,k1,r1,rfl,f0,f1,f2,f3⟩:=rt_bl1 e3
     obtain rfl:=rt_nil1 f3
     simp only [Fo.size] at hN
     have i1:=(ih h1 k1 (by omega) f1 f2).2.2.2 f0
     have hs:kys (stPc h (npP (.cons h0 k0 (.cons h1 k1 .nil))) b)=(5,[105,102])::(kys (exPc h0 (exP k0))++kys (stPc h1 (npP k1) b)):=by
      unfold stPc
      rw [if_neg c0,if_neg c1,if_pos c2,kys_wd,kys_sp,kys_app,kys_sp,if_neg (by simp [npP]),List.append_nil]
      rfl
     rw [hs] at ht
     obtain ⟨a,t1,rfl,q1⟩:=kcons ht
     obtain ⟨t2,t4,rfl,q2,q4⟩:=kapp q1
     have hst:Stp 1 (t4++r):=by
      have hb:∃t,kys (stPc h1 (npP k1) b)=(4,[123])::t:=by
       unfold stPc
       rw [if_neg (by omega),if_neg (by omega),if_neg (by omega),if_neg (by omega),if_neg (by omega),if_pos f0]
       exact ⟨_,rfl⟩
      obtain ⟨t,hb⟩:=hb
      rw [hb] at q4
      obtain ⟨e,t7,rfl,-⟩:=kcons q4
      exact stp_sg [123] (by decide) _ _
     simp only [List.cons_append,List.append_assoc]
     unfold ifP
     rw [expT_mk (by decide),bthn_ok]
     rcases ex_res e1 e2 (d:=d) q2 hst with hr | ⟨y0,hr,m0⟩
     ·exact Or.inl (hr.thn _)
     rw [hr,bthn_ok]
     rcases i1 b d t4 r q4 with hr | ⟨y1,hr,m1⟩
     ·exact Or.inl (hr.thn _)
     have hno:isT (bytes [101,108,115,101]) r=false:=by
      cases r with
      | nil=>rfl
      | cons t r=>exact hn
     rw [hr,bthn_ok,hno,if_neg (by decide)]
     exact Or.inr ⟨_,rfl,sm_mk c2 (List.isEmpty_iff.1 htx) hnum (hnm (by omega)) (sameF_app m0 m1)⟩
   have hicl:ICl h k:=fun b d ts r ht hn=>by
    cases d with
    | zero=>exact Or.inl (dp_fail _)
    | succ d=>rw [sb_if]; exact hif b d ts r ht hn
   refine ⟨fun b d ts r ht hn=>?_,beg_of (by decide) key,fun _=>hicl,fun hc=>by omega⟩
   have ht2:=ht
   obtain ⟨t,hb⟩:=key b
   rw [hb] at ht2
   obtain ⟨a,t1,rfl,-⟩:=kcons ht2
   cases d with
   | zero=>exact Or.inl (sb_zero (q:=(5,[105,102])) (by decide) _ _)
   | succ d=>
    have:=hif b d _ r ht hn
    rw [List.cons_append] at this ⊢
    rw [sb_st]
    simp only [staP]
    rw [begT_mk,if_neg (by decide),isT_mk,if_neg (by decide),isT_mk,if_pos (by decide)]
    exact this
  rw [if_neg c2] at hk
  have hbr:∀(h1:Hd) (k1:Fo),h1.kind=25→∀b,∃t,kys (stPc h1 (npP k1) b)=(4,[123])::t:=fun h1 k1 f0 b=>by
   unfold stPc
   rw [if_neg (by omega),if_neg (by omega),if_neg (by omega),if_neg (by omega),if_neg (by omega),if_pos f0]
   exact ⟨_,rfl⟩
  have hstb:∀(h1:Hd) (k1:Fo),h1.kind=25→∀(b:Nat) (ts r:List Tk),ts.map Tk.ky=kys (stPc h1 (npP k1) b)→Stp 1 (ts++r):=fun h1 k1 f0 b ts r ht=>by
   obtain ⟨t,hb⟩:=hbr h1 k1 f0 b
   rw [hb] at ht
   obtain ⟨e,t7,rfl,-⟩:=kcons ht
   exact stp_sg [123] (by decide) _ _
  by_cases c3:h.kind=23
  ·rw [if_pos c3] at hk
   rw [if_neg (by omega)] at htx
   obtain ⟨h0,k0,r0,rfl,e1,e2,e3⟩:=rt_ex1 hk
   obtain ⟨h1,k1,r1,rfl,f0,f1,f2,f3⟩:=rt_bl1 e3
   obtain rfl:=rt_nil1 f3
   simp only [Fo.size] at hN
   have i1:=(ih h1 k1 (by omega) f1 f2).2.2.2 f0
   have hs:∀b,kys (stPc h (npP (.cons h0 k0 (.cons h1 k1 .nil))) b)=(5,[119,104,105,108,101])::(kys (exPc h0 (exP k0))++kys (stPc h1 (npP k1) b)):=fun b=>by
    unfold stPc
    rw [if_neg c0,if_neg c1,if_neg c2,if_pos c3,kys_wd,kys_sp,kys_app,kys_sp]
    rfl
   refine ⟨fun b d ts r ht _=>?_,beg_of (by decide) fun b=>⟨_,hs b⟩,fun hc=>by omega,fun hc=>by omega⟩
   rw [hs] at ht
   obtain ⟨a,t1,rfl,q1⟩:=kcons ht
   obtain ⟨t2,t4,rfl,q2,q4⟩:=kapp q1
   simp only [List.cons_append,List.append_assoc]
   cases d with
   | zero=>exact Or.inl (sb_zero (q:=(5,[119,104,105,108,101])) (by decide) _ _)
   | succ d=>
    rw [sb_st]
    simp only [staP]
    rw [begT_mk,if_neg (by decide),isT_mk,if_neg (by decide),isT_mk,if_neg (by decide),isT_mk,if_pos (by decide)]
    rcases ex_res e1 e2 (d:=d) q2 (hstb h1 k1 f0 b t4 r q4) with hr | ⟨y0,hr,m0⟩
    ·exact Or.inl (Dp.thn hr _)
    rw [hr,bthn_ok]
    rcases i1 b d t4 r q4 with hr | ⟨y1,hr,m1⟩
    ·exact Or.inl (Dp.thn hr _)
    rw [hr,bthn_ok]
    exact Or.inr ⟨_,rfl,sm_mk c3 (List.isEmpty_iff.1 htx) hnum (hnm (by omega)) (sameF_app m0 m1)⟩
  rw [if_neg c3] at hk
  by_cases c4:h.kind=24
  ·rw [if_pos c4] at hk
   obtain ⟨h0,k0,r0,rfl,e1,e2,e3⟩:=rt_ex1 hk
   obtain ⟨h3,k3,r3,rfl,g1,g2,g3⟩:=rt_ex1 e3
   obtain ⟨h1,k1,r1,rfl,f0,f1,f2,f3⟩:=rt_bl1 g3
   obtain rfl:=rt_nil1 f3
   simp only [Fo.size] at hN
   have i1:=(ih h1 k1 (by omega) f1 f2).2.2.2 f0
   have hs:∀b,kys (stPc h (npP (.cons h0 k0 (.cons h3 k3 (.cons h1 k1 .nil)))) b)=(5,[102,111,114])::(3,h.text)::(5,[105,110])::(kys (exPc h0 (exP k0))++(4,[46,46])::(kys (exPc h3 (exP k3))++kys (stPc h1 (npP k1) b))):=fun b=>by
    unfold stPc
    rw [if_neg c0,if_neg c1,if_neg c2,if_neg c3,if_pos c4,kys_wd,kys_sp,kys_nam,kys_sp,kys_wd,kys_sp,kys_app,kys_sp,kys_sg,kys_sp,kys_app,kys_sp]
    rfl
   refine ⟨fun b d ts r ht _=>?_,beg_of (by decide) fun b=>⟨_,hs b⟩,fun hc=>by omega,fun hc=>by omega⟩
   rw [hs] at ht
   obtain ⟨a,t1,rfl,q1⟩:=kcons ht
   obtain ⟨a2,t2,rfl,q2⟩:=kcons q1
   obtain ⟨a3,t3,rfl,q3⟩:=kcons q2
   obtain ⟨t4,t5,rfl,q4,q5⟩:=kapp q3
   obtain ⟨a6,t6,rfl,q6⟩:=kcons q5
   obtain ⟨t7,t8,rfl,q7,q8⟩:=kapp q6
   simp only [List.cons_append,List.append_assoc]
   cases d with
   | zero=>exact Or.inl (sb_zero (q:=(5,[102,111,114])) (by decide) _ _)
   | succ d=>
    rw [sb_st]
    simp only [staP]
    rw [begT_mk,if_neg (by decide),isT_mk,if_neg (by decide),isT_mk,if_neg (by decide),isT_mk,if_neg (by decide),isT_mk,if_pos (by decide)]
    unfold forP
    rw [expT_mk (by decide),bthn_ok,namT_mk,bthn_ok,expT_mk (by decide),bthn_ok]
    rcases ex_res e1 e2 (d:=d) q4 (stp_sg [46,46] (by decide) a6 (t7++(t8++r))) with hr | ⟨y0,hr,m0⟩
    ·exact Or.inl (Dp.thn hr _)
    rw [hr,bthn_ok,expT_mk (by decide),bthn_ok]
    rcases ex_res g1 g2 (d:=d) q7 (hstb h1 k1 f0 b t8 r q8) with hr | ⟨y1,hr,m1⟩
    ·exact Or.inl (Dp.thn hr _)
    rw [hr,bthn_ok]
    rcases i1 b d t8 r q8 with hr | ⟨y2,hr,m2⟩
    ·exact Or.inl (Dp.thn hr _)
    rw [hr,bthn_ok]
    exact Or.inr ⟨_,rfl,sm_mk c4 rfl hnum (hnm (by omega)) (sameF_app (sameF_app m0 m1) m2)⟩
  rw [if_neg c4] at hk
  by_cases c5:h.kind=25
  ·rw [if_pos c5] at hk
   rw [if_neg (by omega)] at htx
   have hall:AllS k:=by
    have key:∀F:Fo,F.size < N+1→rt .st F=true→AllS F:=by
     intro F
     induction F with
     | nil=>intro _ _; trivial
     | cons h0 k0 r _ ihr=>
      intro hs hr
      simp only [rt,Bool.and_eq_true] at hr
      simp only [Fo.size] at hs
      have:=ih h0 k0 (by omega) hr.1.1 hr.1.2
      exact ⟨this.1,this.2.1,ihr (by omega) hr.2⟩
    exact key k hN hk
   have hb:=bcl_of c5 (List.isEmpty_iff.1 htx) hnum (hnm (by omega)) hall
   refine ⟨fun b d ts r ht hn=>?_,beg_of (by decide) (hbr h k c5),fun hc=>by omega,fun _=>hb⟩
   have ht2:=ht
   obtain ⟨t,hbe⟩:=hbr h k c5 b
   rw [hbe] at ht2
   obtain ⟨a,t1,rfl,-⟩:=kcons ht2
   cases d with
   | zero=>exact Or.inl (sb_zero (q:=(4,[123])) (by decide) _ _)
   | succ d=>
    have:=hb b d _ r ht
    rw [List.cons_append] at this ⊢
    rw [sb_st]
    simp only [staP]
    rw [begT_mk,if_neg (by decide),isT_mk,if_neg (by decide),isT_mk,if_neg (by decide),isT_mk,if_neg (by decide),isT_mk,if_neg (by decide),isT_mk,if_neg (by decide),isT_mk,if_pos (by decide)]
    exact this
  rw [if_neg c5] at hk
  by_cases c6:h.kind=26
  ·rw [if_pos c6] at hk
   obtain ⟨h1,k1,r1,rfl,f0,f1,f2,f3⟩:=rt_bl1 hk
   obtain rfl:=rt_nil1 f3
   simp only [Fo.size] at hN
   have i1:=(ih h1 k1 (by omega) f1 f2).2.2.2 f0
   have hs:∀b,kys (stPc h (npP (.cons h1 k1 .nil)) b)=(5,[102,110])::(3,h.text)::(4,[40])::((kys (comP (h.names.map fun s=>[nam s]))++[(4,[41])])++kys (stPc h1 (npP k1) b)):=fun b=>by
    unfold stPc
    rw [if_neg c0,if_neg c1,if_neg c2,if_neg c3,if_neg c4,if_neg c5,if_pos c6,kys_wd,kys_sp,kys_nam,kys_app,kys_sp,parP,kys_sg,kys_app]
    rfl
   refine ⟨fun b d ts r ht _=>?_,beg_of (by decide) fun b=>⟨_,hs b⟩,fun hc=>by omega,fun hc=>by omega⟩
   rw [hs] at ht
   obtain ⟨a,t1,rfl,q1⟩:=kcons ht
   obtain ⟨a2,t2,rfl,q2⟩:=kcons q1
   obtain ⟨a3,t3,rfl,q3⟩:=kcons q2
   obtain ⟨t4,t5,rfl,q4,q5⟩:=kapp q3
   simp only [List.cons_append,List.append_assoc]
   cases d with
   | zero=>exact Or.inl (sb_zero (q:=(5,[102,110])) (by decide) _ _)
   | succ d=>
    rw [sb_st]
    simp only [staP]
    rw [begT_mk,if_neg (by decide),isT_mk,if_neg (by decide),isT_mk,if_neg (by decide),isT_mk,if_neg (by decide),isT_mk,if_neg (by decide),isT_mk,if_pos (by decide)]
    unfold funP
    rw [expT_mk (by decide),bthn_ok,namT_mk,bthn_ok,expT_mk (by decide),bthn_ok,par_all (by simp; omega) q4,bthn_ok]
    rcases i1 b d t5 r q5 with hr | ⟨y1,hr,m1⟩
    ·exact Or.inl (Dp.thn hr _)
    rw [hr,bthn_ok]
    exact Or.inr ⟨_,rfl,sm_mk c6 rfl hnum rfl m1⟩
  rw [if_neg c6] at hk
  by_cases c7:h.kind=27
  ·rw [if_pos c7] at hk
   rw [if_neg (by omega)] at htx
   by_cases h3:k.len=0
   ·rw [if_pos h3] at hk
    obtain rfl:=rt_nil1 hk
    have hs:∀b,kys (stPc h (npP .nil) b)=[(5,[114,101,116,117,114,110]),(4,[59])]:=fun b=>by
     unfold stPc
     rw [if_neg c0,if_neg c1,if_neg c2,if_neg c3,if_neg c4,if_neg c5,if_neg c6,if_pos c7,kys_wd]
     rfl
    refine ⟨fun b d ts r ht _=>?_,beg_of (by decide) fun b=>⟨_,hs b⟩,fun hc=>by omega,fun hc=>by omega⟩
    rw [hs] at ht
    obtain ⟨a,t1,rfl,q1⟩:=kcons ht
    obtain ⟨a2,t2,rfl,q2⟩:=kcons q1
    obtain rfl:=knil q2
    simp only [List.cons_append,List.nil_append]
    cases d with
    | zero=>exact Or.inl (sb_zero (q:=(5,[114,101,116,117,114,110])) (by decide) _ _)
    | succ d=>
     rw [sb_st]
     simp only [staP]
     rw [begT_mk,if_neg (by decide),isT_mk,if_neg (by decide),isT_mk,if_neg (by decide),isT_mk,if_neg (by decide),isT_mk,if_neg (by decide),isT_mk,if_neg (by decide),isT_mk,if_neg (by decide),isT_mk,if_neg (by decide),isT_mk,if_pos (by decide),isT_mk,if_pos (by decide)]
     exact Or.inr ⟨_,rfl,sm_mk c7 (List.isEmpty_iff.1 htx) hnum (hnm (by omega)) rfl⟩
   ·rw [if_neg h3] at hk
    obtain ⟨h0,k0,r,rfl,e1,e2,e3⟩:=rt_ex1 hk
    obtain rfl:=rt_nil1 e3
    obtain ⟨⟨q,qt,hq,hqo⟩,-⟩:=ke_nd e1 e2
    have hs:∀b,kys (stPc h (npP (.cons h0 k0 .nil)) b)=(5,[114,101,116,117,114,110])::(kys (exPc h0 (exP k0))++[(4,[59])]):=fun b=>by
     unfold stPc
     rw [if_neg c0,if_neg c1,if_neg c2,if_neg c3,if_neg c4,if_neg c5,if_neg c6,if_pos c7,kys_wd,if_neg (by simp [npP]),kys_app,kys_sp]
     rfl
    refine ⟨fun b d ts r ht _=>?_,beg_of (by decide) fun b=>⟨_,hs b⟩,fun hc=>by omega,fun hc=>by omega⟩
    rw [hs] at ht
    obtain ⟨a,t1,rfl,q1⟩:=kcons ht
    obtain ⟨t2,t3,rfl,q2,q3⟩:=kapp q1
    obtain ⟨c,t4,rfl,q4⟩:=kcons q3
    obtain rfl:=knil q4
    have hr:=fun d=>ex_res e1 e2 (d:=d) q2 (stp_sg [59] (by decide) c r)
    have hno:isT (bytes [59]) (t2++(⟨4,[59],c⟩::r))=false:=by
     rw [hq] at q2
     obtain ⟨e,t5,rfl,-⟩:=kcons q2
     rw [List.cons_append,isT_mk]
     exact okH_not hqo _ (by decide)
    simp only [List.cons_append,List.append_assoc,List.nil_append]
    cases d with
    | zero=>exact Or.inl (sb_zero (q:=(5,[114,101,116,117,114,110])) (by decide) _ _)
    | succ d=>
     rw [sb_st]
     simp only [staP]
     rw [begT_mk,if_neg (by decide),isT_mk,if_neg (by decide),isT_mk,if_neg (by decide),isT_mk,if_neg (by decide),isT_mk,if_neg (by decide),isT_mk,if_neg (by decide),isT_mk,if_neg (by decide),isT_mk,if_neg (by decide),isT_mk,if_pos (by decide),hno,if_neg (by decide)]
     rcases hr d with hr | ⟨y,hr,hm⟩
     ·exact Or.inl (Dp.thn hr _)
     rw [hr,bthn_ok,expT_mk (by decide),bthn_ok]
     exact Or.inr ⟨_,rfl,sm_mk c7 (List.isEmpty_iff.1 htx) hnum (hnm (by omega)) hm⟩
  rw [if_neg c7] at hk
  rw [if_neg (by omega)] at htx
  have c9:h.kind=29:=by omega
  obtain rfl:=rt_nil1 hk
  have hs:∀b,kys (stPc h (npP .nil) b)=[(5,[98,114,101,97,107]),(4,[59])]:=fun b=>by
   unfold stPc
   rw [if_neg c0,if_neg c1,if_neg c2,if_neg c3,if_neg c4,if_neg c5,if_neg c6,if_neg c7,if_neg c8,if_pos c9]
   rfl
  refine ⟨fun b d ts r ht _=>?_,beg_of (by decide) fun b=>⟨_,hs b⟩,fun hc=>by omega,fun hc=>by omega⟩
  rw [hs] at ht
  obtain ⟨a,t1,rfl,q1⟩:=kcons ht
  obtain ⟨a2,t2,rfl,q2⟩:=kcons q1
  obtain rfl:=knil q2
  simp only [List.cons_append,List.nil_append]
  cases d with
  | zero=>exact Or.inl (sb_zero (q:=(5,[98,114,101,97,107])) (by decide) _ _)
  | succ d=>
   rw [sb_st]
   simp only [staP]
   rw [begT_mk,if_neg (by decide),isT_mk,if_neg (by decide),isT_mk,if_neg (by decide),isT_mk,if_neg (by decide),isT_mk,if_neg (by decide),isT_mk,if_neg (by decide),isT_mk,if_neg (by decide),isT_mk,if_pos (by decide),expT_mk (by decide),bthn_ok]
   exact Or.inr ⟨_,rfl,sm_mk c9 (List.isEmpty_iff.1 htx) hnum (hnm (by omega)) rfl⟩
theorem alls_all (F:Fo) (h:rt .st F=true):AllS F:=by
 induction F with
 | nil=>trivial
 | cons h0 k0 r _ ih=>
  simp only [rt,Bool.and_eq_true] at h
  have:=scl_all _ h0 k0 (Nat.lt_succ_self _) h.1.1 h.1.2
  exact ⟨this.1,this.2.1,ih h.2⟩
theorem pro_tail:∀(F:Fo),AllS F→∀(n:Nat) (A G:Fo) (ts:List Tk),F.len < n→Fo.sameF A G=true→ts.map Tk.ky=kys (lnP (npP F) 0)++[(0,[])]→Dp (proL (sbP 64).1 n G ts)∨∃H,proL (sbP 64).1 n G ts=.ok H∧Fo.sameF (A.app F) H=true:=by
 intro F
 induction F with
 | nil=>
  intro _ n A G ts hn hs hk
  obtain ⟨n,rfl⟩:∃m,n=m+1:=⟨n - 1,by omega⟩
  obtain ⟨a,t1,rfl,-⟩:=kcons (k:=(0,[])) hk
  rw [Fo.app_nil]
  refine Or.inr ⟨G,?_,hs⟩
  simp only [proL]
  rw [if_pos trivial]
 | cons h k F _ ih=>
  intro hA n A G ts hn hs hk
  obtain ⟨hS,hB,hA⟩:=hA
  obtain ⟨n,rfl⟩:∃m,n=m+1:=⟨n - 1,by omega⟩
  rw [kys_ln,List.append_assoc] at hk
  obtain ⟨t1,t2,rfl,e1,e2⟩:=kapp hk
  obtain ⟨q,qt,hq,hqb⟩:=hB 0
  have hn2:=nx_else (r:=[]) hA e2 (by decide)
  rw [List.append_nil] at hn2
  have hr:=hS 0 64 t1 t2 e1 hn2
  rw [hq] at e1
  obtain ⟨a,t3,rfl,e3⟩:=kcons e1
  simp only [List.cons_append] at hr ⊢
  simp only [proL]
  rw [if_neg (begK_not hqb ELSE (by decide)).2]
  rcases hr with ⟨p,hr⟩ | ⟨y,hr,hm⟩
  ·rw [hr]
   exact Or.inl ⟨p,rfl⟩
  rw [hr]
  have:=ih hA n (A.app (Nd.one (h,k))) (G.app y.one) t2 (by simp only [Fo.len] at hn; omega) (sameF_app hs hm) e2
  rw [Fo.app_assoc] at this
  exact this
theorem back_prog (F:Fo) (h:rt .st F=true):(∃p e,proP (txF F)=.error (p,e)∧(e=3∨e=12))∨∃G,proP (txF F)=.ok G∧Fo.sameF F G=true:=by
 have hA:=alls_all F h
 unfold proP
 rcases lex_prog F h with ⟨ts,e1,e2⟩ | ⟨q,e1⟩
 ·rw [e1]
  have hl:F.len < ts.length:=by
   have h1:=ln_len 0 F hA
   have h2:=congrArg List.length e2
   rw [show prPc F=lnP (npP F) 0 from rfl] at h2
   simp only [List.length_map,List.length_append,List.length_cons,List.length_nil] at h2
   omega
  rcases pro_tail F hA ts.length .nil .nil ts hl rfl e2 with ⟨p,hr⟩ | ⟨H,hr,hm⟩
  ·exact Or.inl ⟨p,12,hr,Or.inr rfl⟩
  ·exact Or.inr ⟨H,hr,hm⟩
 ·rw [e1]
  exact Or.inl ⟨q,3,rfl,Or.inl rfl⟩

def zh (h:Hd):Hd:=⟨h.kind,h.text,h.num,h.names,0⟩
def zp:Fo→Fo
 | .nil=>.nil
 | .cons h k r=>.cons (zh h) (zp k) (zp r)
theorem zp_same:∀(F G:Fo),Fo.sameF F G=true→zp F=zp G:=by
 intro F
 induction F with
 | nil=>intro G h; cases G with
  | nil=>rfl
  | cons _ _ _=>simp [Fo.sameF] at h
 | cons h k r ihk ihr=>intro G hs; cases G with
  | nil=>simp [Fo.sameF] at hs
  | cons h' k' r'=>
   simp only [Fo.sameF,Bool.and_eq_true,beq_iff_eq] at hs
   obtain ⟨⟨⟨⟨⟨e1,e2⟩,e3⟩,e4⟩,e5⟩,e6⟩:=hs
   simp only [zp,zh,e1,e2,e3,e4,ihk k' e5,ihr r' e6]
def zx (x:Xt):Xt:=(zh x.1,x.2)
theorem exOne_z (h:Hd) (ks:List Xt):exOne (zh h) (ks.map zx)=exOne h ks:=by
 have hl:∀(b e:UInt8) (ks:List Xt),lisT b (ks.map zx) e=lisT b ks e:=fun b e ks=>by
  unfold lisT
  rw [List.map_map]
  rfl
 unfold exOne
 rw [hl,hl]
 cases ks with
 | nil=>rfl
 | cons x r=>cases r with
  | nil=>rfl
  | cons y r=>
   have:=hl 91 93 (y::r)
   simp only [List.map_cons] at this ⊢
   simp only [zx,zh,this,weakB] at this ⊢
   rfl
theorem exT_z (F:Fo):exT (zp F)=(exT F).map zx:=by
 induction F with
 | nil=>rfl
 | cons h k r ihk ihr=>simp only [exT,zp,ihk,ihr,exOne_z,List.map_cons]; rfl
def zn (x:Nt):Nt:=⟨zh x.hd,x.ex,x.st⟩
theorem stOne_z (h:Hd) (ks:List Nt) (d:Nat):stOne (zh h) (ks.map zn) d=stOne h ks d:=by
 have h0:∀i,ex0 (ks.map zn) i=ex0 ks i:=fun i=>by
  unfold ex0
  rw [List.getElem?_map]
  cases ks[i]? <;> rfl
 have h1:∀i d,st0 (ks.map zn) i d=st0 ks i d:=fun i d=>by
  unfold st0
  rw [List.getElem?_map]
  cases ks[i]? <;> rfl
 have h2:∀d,lnT (ks.map zn) d=lnT ks d:=fun d=>by
  unfold lnT
  rw [List.map_map]
  rfl
 unfold stOne
 simp only [h0,h1,h2,List.length_map]
 rfl
theorem ntT_z (F:Fo):ntT (zp F)=(ntT F).map zn:=by
 induction F with
 | nil=>rfl
 | cons h k r ihk ihr=>
  simp only [ntT,zp,ihk,ihr,List.map_cons]
  congr 1
  unfold zn
  congr 1
  ·rw [exT_z,exOne_z]
  ·funext d; exact stOne_z h (ntT k) d
theorem txF_z (F:Fo):txF (zp F)=txF F:=by
 unfold txF lnT
 rw [ntT_z,List.map_map]
 rfl
theorem txF_same {F G:Fo} (h:Fo.sameF F G=true):txF F=txF G:=by rw [← txF_z F,← txF_z G,zp_same F G h]

theorem prt_err {F:Fo} {k:Nat} (hr:rt .st F=true) (h:prtP F=.error k):k=3∨k=12:=by
 unfold prtP at h
 rw [if_neg (by rw [hr]; decide)] at h
 split at h
 ·injection h with h; exact Or.inl h.symm
 ·rcases back_prog F hr with ⟨p,e,h1,h2⟩ | ⟨G,h1,-⟩
  ·rw [h1] at h
   injection h with h
   rw [← h]
   exact h2
  ·rw [h1] at h
   cases h
theorem prt_ok {F:Fo} {t:List UInt8} (h:prtP F=.ok t):t=txF F∧t.length≤16384∧∃G,proP t=.ok G∧Fo.sameF F G=true∧prtP G=.ok t:=by
 unfold prtP at h
 by_cases hr:rt .st F=false
 ·rw [if_pos hr] at h; cases h
 rw [if_neg hr] at h
 have hr2:rt .st F=true:=by simpa using hr
 by_cases hl:16384 < (txF F).length
 ·rw [if_pos hl] at h; cases h
 rw [if_neg hl] at h
 rcases back_prog F hr2 with ⟨p,e,h1,h2⟩ | ⟨G,h1,h2⟩
 ·rw [h1] at h; cases h
 ·rw [h1] at h
  injection h with h
  refine ⟨h.symm,by rw [← h]; omega,G,by rw [← h]; exact h1,h2,?_⟩
  have hg:=(proP_ok h1).1
  unfold prtP
  rw [← txF_same h2,if_neg (by rw [hg]; decide),if_neg hl,h1,h]
end Go.Proofs.YtbaidkefobhipaaGreatDoor
