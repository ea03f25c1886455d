/-
  Plain: how long the text of a right program is at most.
  Plain definitions: how a program's names are checked.
  Plain: the chapter's examples.
-/
import Derived.Test.YtbaidkefobhipaaGreatDoorZS7
import Derived.Test.YtbaidkefobhipaaGreatDoorZS2
namespace Go.Proofs.YtbaidkefobhipaaGreatDoor

theorem dec_len:∀(k u:Nat),u < 10 ^ (k+1)→(Lib.decDigits u).length≤k+1:=by
 intro k;induction k with
 | zero=>intro u h; rw [Lib.decDigits,dif_pos (by simpa using h)]; simp
 | succ k ih=>
  intro u h;rw [Lib.decDigits];split
  ·simp
  ·have h1:u / 10 < 10 ^ (k+1):=by rw [Nat.pow_succ] at h; omega
   have:=ih _ h1
   simp
   omega
theorem itoa_len {n:Int} (h0:0≤n) (h1:n≤4611686018427387904):(Lib.itoa n).length≤19:=by
 unfold Lib.itoa;rw [if_neg (by omega)]
 exact dec_len 18 n.toNat (by omega)
def NumB:Fo→Prop
 | .nil=>True
 | .cons h k r=>(h.kind=1→0≤h.num∧h.num≤4611686018427387904)∧NumB k∧NumB r
theorem numB_exH {h:Hd} {n:Nat} (hh:exH h n=true):h.kind=1→0≤h.num∧h.num≤4611686018427387904:=fun hk=>by
 unfold exH at hh;simp [hk] at hh;omega
theorem numB_stH {h:Hd} (hh:stH h=true):h.kind=1→0≤h.num∧h.num≤4611686018427387904:=fun hk=>by
 unfold stH at hh;simp [hk] at hh
theorem numB_rt:∀(F:Fo) (m:Md),rt m F=true→NumB F:=by
 intro F;induction F with
 | nil=>intro _ _; trivial
 | cons h k r ihk ihr=>
  intro m hm;match m,hm with
  | .ex,hm=>
   simp only [rt,Bool.and_eq_true] at hm;exact ⟨numB_exH hm.1.1,ihk _ hm.1.2,ihr _ hm.2⟩
  | .st,hm=>
   simp only [rt,Bool.and_eq_true] at hm;exact ⟨numB_stH hm.1.1,ihk _ hm.1.2,ihr _ hm.2⟩
  | .sq [],hm=>simp [rt] at hm
  | .sq (.ex::t),hm=>
   simp only [rt,Bool.and_eq_true] at hm;exact ⟨numB_exH hm.1.1,ihk _ hm.1.2,ihr _ hm.2⟩
  | .sq (.bl::t),hm=>
   simp only [rt,Bool.and_eq_true] at hm;exact ⟨numB_stH hm.1.1.2,ihk _ hm.1.2,ihr _ hm.2⟩
  | .sq (.bi::t),hm=>
   simp only [rt,Bool.and_eq_true] at hm;exact ⟨numB_stH hm.1.1.2,ihk _ hm.1.2,ihr _ hm.2⟩
def exS (ks:List Xt):Nat:=(ks.map fun k=>k.2.length+4).sum
theorem join_le_sum:∀(ts:List (List UInt8)),(Lib.join ts cm).length≤(ts.map fun t=>t.length+4).sum:=by
 intro ts
 cases ts with
 | nil=>simp [Lib.join_nil]
 | cons a r=>
  rw [Lib.join_length];have h1:∀l:List (List UInt8),2*l.length+Lib.lens l≤(l.map fun t=>t.length+4).sum:=by
   intro l;induction l with
   | nil=>simp [Lib.lens]
   | cons b l ih=>simp [Lib.lens] at ih ⊢; omega
  have h2:=h1 r
  simp [cm,Lib.lens] at h2 ⊢
  omega
theorem lisT_len (b:UInt8) (ks:List Xt) (e:UInt8):(lisT b ks e).length≤2+exS ks:=by
 unfold lisT exS;have h1:=join_le_sum (ks.map (·.2));rw [List.map_map] at h1;have h2:((fun t:List UInt8=>t.length+4)∘fun x:Xt=>x.2)=fun k:Xt=>k.2.length+4:=rfl
 rw [h2] at h1;simp only [List.length_append,List.length_cons,List.length_nil];omega
theorem opW_len (b:Bool) (t:List UInt8):(opW b t).length≤t.length+2:=by unfold opW; split <;> simp <;> omega
theorem litT_len (l:List UInt8):(litT l).length≤2*l.length+2:=by
 unfold litT litP;have:=escL_len l;split
 ·rename_i t ht
  split at ht
  ·cases ht
  ·split at ht
   ·cases ht
   ·cases ht
    simp
    omega
 ·simp
theorem exOne_len {h:Hd} (hn:h.kind=1→0≤h.num∧h.num≤4611686018427387904) (ks:List Xt):(exOne h ks).length+4≤32*(1+h.text.length)+exS ks:=by
 unfold exOne;by_cases c1:h.kind=1
 ·rw [if_pos c1]
  have:=itoa_len (hn c1).1 (hn c1).2
  omega
 rw [if_neg c1];by_cases c2:h.kind=2
 ·rw [if_pos c2]
  have:=litT_len h.text
  omega
 rw [if_neg c2];by_cases c3:h.kind=3
 ·rw [if_pos c3]; omega
 rw [if_neg c3];by_cases c9:h.kind=9
 ·rw [if_pos c9]; simp only [List.length_cons,List.length_nil]; omega
 rw [if_neg c9];by_cases c10:h.kind=10
 ·rw [if_pos c10]; simp only [List.length_cons,List.length_nil]; omega
 rw [if_neg c10];by_cases c4:h.kind=4
 ·rw [if_pos c4]
  have:=lisT_len 91 ks 93
  omega
 rw [if_neg c4];by_cases c7:h.kind=7
 ·rw [if_pos c7]
  have:=lisT_len 40 ks 41
  simp only [List.length_append];omega
 rw [if_neg c7]
 cases ks with
 | nil=>simp; omega
 | cons a r=>
  obtain ⟨h0,t0⟩:=a
  have he:exS ((h0,t0)::r)=t0.length+4+exS r:=by simp [exS]
  rw [he];simp only;by_cases c5:h.kind=5
  ·rw [if_pos c5]
   have:=opW_len (decide (h0.kind=6)) t0
   simp only [List.length_append];omega
  rw [if_neg c5];by_cases c8:h.kind=8
  ·rw [if_pos c8]
   have h1:=opW_len (decide (h0.kind=6)||decide (h0.kind=5)) t0
   have h2:=lisT_len 91 r 93
   simp only [List.length_append];omega
  rw [if_neg c8]
  cases r with
  | nil=>simp; omega
  | cons b r2=>
   obtain ⟨h1,t1⟩:=b
   have he2:exS ((h1,t1)::r2)=t1.length+4+exS r2:=by simp [exS]
   rw [he2];have h3:=opW_len (weakB h0 (leastS h.text)) t0;have h4:=opW_len (weakB h1 (stren h.text+1)) t1;simp only [List.length_append,List.length_cons,List.length_nil];omega
theorem exT_sum:∀(F:Fo),NumB F→exS (exT F)≤32*F.wt:=by
 intro F;induction F with
 | nil=>intro _; simp [exT,exS]
 | cons h k r ihk ihr=>
  intro hn;have h1:=exOne_len hn.1 (exT k);have h2:=ihk hn.2.1;have h3:=ihr hn.2.2;have he:exS (exT (.cons h k r))=(exOne h (exT k)).length+4+exS (exT r):=by simp [exS,exT]
  rw [he];simp only [Fo.wt,Hd.wt];omega
def exN4 (ks:List Nt):Nat:=(ks.map fun k=>k.ex.length+4).sum
def stN4 (ks:List Nt) (d:Nat):Nat:=(ks.map fun k=>(k.st d).length+2*d+10).sum
theorem exN4_eq (F:Fo):exN4 (ntT F)=exS (exT F):=by
 induction F with
 | nil=>rfl
 | cons h k r _ ih=>simp only [exN4,exS,ntT,exT,List.map_cons,List.sum_cons] at ih ⊢; rw [ih]
theorem ex0_le (ks:List Nt):(ex0 ks 0).length+(ex0 ks 1).length≤exN4 ks:=by
 match ks with
 | []=>simp [ex0,exN4]
 | [a]=>simp [ex0,exN4]
 | a::b::t=>simp [ex0,exN4]; omega
theorem st0_le (ks:List Nt) (d:Nat):(st0 ks 0 d).length+(st0 ks 1 d).length+(st0 ks 2 d).length≤stN4 ks d:=by
 match ks with
 | []=>simp [st0,stN4]
 | [a]=>simp [st0,stN4]; omega
 | [a,b]=>simp [st0,stN4]; omega
 | a::b::c::t=>simp [st0,stN4]; omega
theorem ind_len' (d:Nat):(ind d).length=2*d:=by
 have h1:∀d,ind (d+1)=ind d++[32,32]:=fun d=>by simp [ind,List.replicate_succ',List.flatten_append]
 induction d with
 | zero=>rfl
 | succ d ih=>rw [h1,List.length_append,ih]; simp; omega
theorem lnT_len (ks:List Nt) (d:Nat):(lnT ks d).length≤stN4 ks d:=by
 induction ks with
 | nil=>simp [lnT,stN4]
 | cons a ks ih=>
  have e1:lnT (a::ks) d=ind d++a.st d++[10]++lnT ks d:=by simp [lnT]
  have e2:stN4 (a::ks) d=(a.st d).length+2*d+10+stN4 ks d:=by simp [stN4]
  rw [e1,e2];simp only [List.length_append,ind_len',List.length_cons,List.length_nil];omega
theorem names_join (ns:List (List UInt8)):(Lib.join ns cm).length≤4*(ns.map fun n=>1+n.length).sum:=by
 have h1:=join_le_sum ns
 have h2:(ns.map fun t=>t.length+4).sum≤4*(ns.map fun n=>1+n.length).sum:=by
  induction ns with
  | nil=>simp
  | cons a l ih => 
   have:=join_le_sum l
   simp only [List.map_cons,List.sum_cons];have:=ih this;omega
 omega
theorem stOne_len (h:Hd) (ks:List Nt) (d:Nat):(stOne h ks d).length≤40+4*h.wt+exN4 ks+stN4 ks d∨(stOne h ks d).length≤40+2*d+stN4 ks (d+1):=by
 have hx:=ex0_le ks
 have hs:=st0_le ks d
 have hw:1+h.text.length≤h.wt:=by unfold Hd.wt; omega
 unfold stOne;by_cases c0:h.kind=20
 ·left; rw [if_pos c0]; simp only [List.length_append,List.length_cons,List.length_nil]; omega
 rw [if_neg c0];by_cases c1:h.kind=21
 ·left; rw [if_pos c1]; simp only [List.length_append,List.length_cons,List.length_nil]; omega
 rw [if_neg c1];by_cases c2:h.kind=22
 ·left; rw [if_pos c2]
  split <;> (simp only [List.length_append,List.length_cons,List.length_nil]; omega)
 rw [if_neg c2];by_cases c3:h.kind=23
 ·left; rw [if_pos c3]; simp only [List.length_append,List.length_cons,List.length_nil]; omega
 rw [if_neg c3];by_cases c4:h.kind=24
 ·left; rw [if_pos c4]; simp only [List.length_append,List.length_cons,List.length_nil]; omega
 rw [if_neg c4];by_cases c5:h.kind=25
 ·right; rw [if_pos c5]
  have:=lnT_len ks (d+1)
  simp only [List.length_append,List.length_cons,List.length_nil,ind_len'];omega
 rw [if_neg c5];by_cases c6:h.kind=26
 ·left; rw [if_pos c6]
  have h1:=names_join h.names
  simp only [List.length_append,List.length_cons,List.length_nil];unfold Hd.wt at hw ⊢;omega
 rw [if_neg c6];by_cases c7:h.kind=27
 ·left; rw [if_pos c7]
  split <;> (simp only [List.length_append,List.length_cons,List.length_nil]; omega)
 rw [if_neg c7];by_cases c8:h.kind=28
 ·left; rw [if_pos c8]; simp only [List.length_append,List.length_cons,List.length_nil]; omega
 rw [if_neg c8];by_cases c9:h.kind=29
 ·left; rw [if_pos c9]; simp only [List.length_cons,List.length_nil]; omega
 rw [if_neg c9];left; simp only [List.length_nil]; omega
def qB (d w:Nat):Nat:=(200+40*(d+w))*w
theorem qB_add (d a b:Nat):qB d a+qB d b≤qB d (a+b):=by
 unfold qB;have h1:(200+40*(d+a))*a≤(200+40*(d+(a+b)))*a:=Nat.mul_le_mul_right _ (by omega)
 have h2:(200+40*(d+b))*b≤(200+40*(d+(a+b)))*b:=Nat.mul_le_mul_right _ (by omega)
 have h5:=Nat.mul_add (200+40*(d+(a+b))) a b
 omega
theorem qB_step (d a h:Nat) (hh:1≤h):qB (d+1) a+200*h+40*d+40*a≤qB d (a+h):=by
 unfold qB;have h1:(200+40*(d+1+a))*a≤(200+40*(d+(a+h)))*a:=Nat.mul_le_mul_right _ (by omega)
 have h2:(200+40*(d+a))*h≤(200+40*(d+(a+h)))*h:=Nat.mul_le_mul_right _ (by omega)
 have h3:(200+40*(d+a))*h=200*h+(40*(d+a))*h:=Nat.add_mul _ _ _
 have h4:40*(d+a)*1≤(40*(d+a))*h:=Nat.mul_le_mul_left _ hh
 have h5:=Nat.mul_add (200+40*(d+(a+h))) a h
 omega
theorem qB_mono (d a:Nat):qB d a≤qB (d+1) a:=Nat.mul_le_mul_right _ (by omega)
theorem ntT_sum:∀(F:Fo),NumB F→∀d,stN4 (ntT F) d≤qB d F.wt:=by
 intro F;induction F with
 | nil=>intro _ d; simp [ntT,stN4]
 | cons h k r ihk ihr=>
  intro hn d;have h1:=stOne_len h (ntT k) d;have h2:=ihk hn.2.1 d;have h2':=ihk hn.2.1 (d+1);have h3:=ihr hn.2.2 d;have h4:=exT_sum k hn.2.1;rw [exN4_eq] at h1;have he:stN4 (ntT (.cons h k r)) d=(stOne h (ntT k) d).length+2*d+10+stN4 (ntT r) d:=by simp [stN4,ntT]
  rw [he];have hw:1≤h.wt:=by unfold Hd.wt; omega
  have h5:=qB_step d k.wt h.wt hw
  have h6:=qB_mono d k.wt
  have h7:=qB_add d (k.wt+h.wt) r.wt
  have h8:(Fo.cons h k r).wt=k.wt+h.wt+r.wt:=by simp only [Fo.wt]; omega
  rw [h8];omega
theorem txF_len {F:Fo} (hr:rt .st F=true):(txF F).length≤qB 0 F.wt:=Nat.le_trans (lnT_len _ _) (ntT_sum F (numB_rt F .st hr) 0)
theorem txF_small {F:Fo} (hr:rt .st F=true) (hw:F.wt≤1048576):(txF F).length≤70368744177664:=by
 have h1:=txF_len hr
 unfold qB at h1;have h2:(200+40*(0+F.wt))*F.wt≤(200+40*(0+1048576))*1048576:=Nat.mul_le_mul (by omega) hw
 omega

abbrev Nm:=List UInt8
def visC (ss:List (List Nm)) (s:Nm):Bool:=ss.any fun l=>decide (s∈l)
structure CS where
 ss:List (List Nm)
 fs:List Nm
 lo:Nat
 inF:Bool
abbrev CE (α:Type):=Except (Int×Nat) α
def CE.then {α β:Type} (r:CE α) (f:α→CE β):CE β:=match r with | .error x=>.error x | .ok a=>f a
def exC (ss:List (List Nm)):Fo→CE Unit
 | .nil=>.ok ()
 | .cons h k r=>if h.kind=3∧visC ss h.text=false then .error (h.pos,13) else (exC ss k).then fun _=>exC ss r
def CS.decl (s:CS) (n:Nm):CS:={ s with ss:=match s.ss with | []=>[] | l::t=>(n::l)::t }
def CS.push (s:CS) (l:List Nm):CS:={ s with ss:=l::s.ss }
def CS.pop (s:CS):CS:={ s with ss:=s.ss.tail }
inductive Cm where
 | st (top:Bool)
 | iff
 | loop (names:List Nm)
 | fnb (names:List Nm)
def ckC:Cm→CS→Fo→CE CS
 | .st _,s,.nil=>.ok s
 | .st p,s,.cons h k r=>
  (if h.kind=20 then (exC s.ss k).then fun _=>if h.text∈s.ss.headD [] then .error (h.pos,10) else .ok (s.decl h.text)
   else if h.kind=21 then if visC s.ss h.text=false then .error (h.pos,13) else (exC s.ss k).then fun _=>.ok s
   else if h.kind=22 then ckC .iff s k
   else if h.kind=23 then ckC (.loop []) s k
   else if h.kind=24 then ckC (.loop [h.text]) s k
   else if h.kind=25 then (ckC (.st false) (s.push []) k).then fun s'=>.ok s'.pop
   else if h.kind=26 then
    if p=false then .error (h.pos,14) else if h.text∈s.fs then .error (h.pos,10) else if ¬ h.names.Nodup then .error (h.pos,10)
    else ckC (.fnb h.names) { s with fs:=h.text::s.fs } k
   else if h.kind=27 then if s.inF=false then .error (h.pos,14) else (exC s.ss k).then fun _=>.ok s
   else if h.kind=28 then (exC s.ss k).then fun _=>.ok s
   else if h.kind=29 then if s.lo=0 then .error (h.pos,14) else .ok s
   else .ok s:CE CS).then fun s'=>ckC (.st p) s' r
 | .iff,s,.nil=>.ok s
 | .iff,s,.cons h k r=>if h.kind=3∧visC s.ss h.text=false then .error (h.pos,13) else (exC s.ss k).then fun _=>ckC (.st false) s r
 | .loop _,s,.nil=>.ok s
 | .loop ns,s,.cons _ k .nil=>(ckC (.st false) ({ s with lo:=s.lo+1 }.push ns) k).then fun s'=>.ok { s'.pop with lo:=s.lo }
 | .loop ns,s,.cons h k (.cons h2 k2 r2)=>if h.kind=3∧visC s.ss h.text=false then .error (h.pos,13) else (exC s.ss k).then fun _=>ckC (.loop ns) s (.cons h2 k2 r2)
 | .fnb _,s,.nil=>.ok s
 | .fnb ns,s,.cons _ k _=>(ckC (.st false) { s with ss:=[ns],inF:=true } k).then fun s'=>.ok { s' with ss:=s.ss,inF:=false }
def chkL (F:Fo):Int×Nat:=if rt .st F=false then (0,1) else match ckC (.st true) ⟨[[]],[],0,false⟩ F with | .error x=>x | .ok _=>(0,0)

def aw1:List UInt8:=[108,101,116,32,120,32,61,32,49,32,43,32,50,32,42,32,51,59]
def num0 (n:Int) (p:Nat):Nd:=(hdT 1 [] n p,.nil)
def aw1F:Fo:=(Nd.one (hdT 20 [120] 0 0,Nd.one (hdT 6 [43] 0 10,(num0 1 8).one.app (Nd.one (hdT 6 [42] 0 14,(num0 2 12).one.app (num0 3 16).one)))))
theorem ev1:proP aw1=.ok aw1F:=by kernel_rfl
theorem ev2:proP [97,32,60,32,98,32,60,32,99,59]=.error (6,18):=by kernel_rfl
theorem ev3:proP [108,101,116,32,49]=.error (4,18):=by kernel_rfl
theorem ev4:proP [102,40]=.error (2,18):=by kernel_rfl
theorem ev5:proP (List.replicate 63 40++[49])=.error (63,12):=by kernel_rfl
def okB (r:Except (Nat×Nat) Fo):Bool:=match r with | .ok F=>decide (F.len≠0) | .error _=>false
theorem ev6:okB (proP (List.replicate 62 40++[49]++List.replicate 62 41++[59]))=true:=by kernel_rfl
def prB (s t:List UInt8):Bool:=match proP s with | .ok F=>(match prtP F with | .ok u=>decide (u=t) | .error _=>false) | .error _=>false
theorem ev7:prB [105,102,32,97,123,102,40,49,44,91,50,93,41,59,125] [105,102,32,97,32,123,10,32,32,102,40,49,44,32,91,50,93,41,59,10,125,10]=true:=by kernel_rfl
def ckB (s:List UInt8) (p:Int) (e:Nat):Bool:=match proP s with | .ok F=>decide (chkL F=(p,e)) | .error _=>false
theorem ev10:ckB [120,32,61,32,49,59] 0 13=true:=by kernel_rfl
theorem ev8:prB [40,49,43,50,41,42,51,59] [40,49,32,43,32,50,41,32,42,32,51,59,10]=true:=by kernel_rfl
theorem ev9:prB [40,97,45,98,41,45,99,59,97,45,40,98,45,99,41,59] [97,32,45,32,98,32,45,32,99,59,10,97,32,45,32,40,98,32,45,32,99,41,59,10]=true:=by kernel_rfl
theorem ev11:ckB [108,101,116,32,120,32,61,32,120,59] 8 13=true:=by kernel_rfl
theorem ev12:ckB [108,101,116,32,120,32,61,32,49,59,32,108,101,116,32,120,32,61,32,50,59] 11 10=true:=by kernel_rfl
theorem ev13:ckB [123,32,102,110,32,102,40,41,32,123,32,125,32,125] 2 14=true:=by kernel_rfl
theorem ev14:ckB [108,101,116,32,120,32,61,32,49,59,32,123,32,108,101,116,32,120,32,61,32,120,59,32,125] 0 0=true:=by kernel_rfl
theorem okB_ok {s:List UInt8} (h:okB (proP s)=true):∃F,proP s=.ok F∧F.len≠0:=by
 unfold okB at h;split at h
 ·rename_i F hF; exact ⟨F,hF,of_decide_eq_true h⟩
 ·cases h
theorem prB_ok {s t:List UInt8} (h:prB s t=true):∃F,proP s=.ok F∧prtP F=.ok t:=by
 unfold prB at h;split at h
 ·rename_i F hF
  split at h
  ·rename_i u hu; exact ⟨F,hF,by rw [hu,of_decide_eq_true h]⟩
  ·cases h
 ·cases h
theorem ckB_ok {s:List UInt8} {p:Int} {e:Nat} (h:ckB s p e=true):∃F,proP s=.ok F∧chkL F=(p,e):=by
 unfold ckB at h;split at h
 ·rename_i F hF; exact ⟨F,hF,of_decide_eq_true h⟩
 ·cases h
end Go.Proofs.YtbaidkefobhipaaGreatDoor
