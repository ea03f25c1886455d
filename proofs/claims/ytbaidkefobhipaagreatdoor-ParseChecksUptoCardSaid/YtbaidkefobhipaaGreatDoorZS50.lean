/-
  Plain: how the reference checks a program; it answers what the program answers.
  Walks: the reference's words, names, plain.
  Walks: the reference's power and Quote.
  Walks: the reference's right expressions.
-/
import Derived.Test.YtbaidkefobhipaaGreatDoorZS23
namespace Go.Proofs.YtbaidkefobhipaaGreatDoor
set_option maxHeartbeats 8000000
set_option maxRecDepth 100000

structure RS where
 names:List Nm
 out:Nat
 inF:Bool
 inL:Bool
 top:Bool
 fs:List Nm
 pos:Int
 e:Nat
namespace RS
def fail (s:RS) (p:Int) (k:Nat):RS:=if s.e=0 then { s with pos:=p,e:=k } else s
def use:RS→Fo→RS
 | s,.nil=>s
 | s,.cons h k r=>use (use (if h.kind=3∧h.text∉s.names then s.fail h.pos 13 else s) k) r
def join (s t:RS):RS:=if s.e=0∧t.e≠0 then s.fail t.pos t.e else s
def sub (s:RS) (ns:List Nm) (l:Bool):RS:=⟨s.names++ns,s.names.length,s.inF,s.inL||l,false,[],0,s.e⟩
def fnb (s:RS) (ns:List Nm):RS:=⟨ns,0,true,false,false,[],0,s.e⟩
def fh1 (s:RS) (h:Hd):RS:=if s.top=false then s.fail h.pos 14 else s
def fh2 (s:RS) (h:Hd):RS:=if h.text∈s.fs then s.fail h.pos 10 else s
def fh3 (s:RS) (h:Hd):RS:={ s with fs:=s.fs++[h.text] }
def fh4 (s:RS) (h:Hd):RS:=if ¬ h.names.Nodup then s.fail h.pos 10 else s
def funH (s:RS) (h:Hd):RS:=(((s.fh1 h).fh2 h).fh3 h).fh4 h
def pre1 (s:RS) (h:Hd):RS:=if h.kind=29∧s.inL=false∨h.kind=27∧s.inF=false then s.fail h.pos 14 else s
def pre2 (s:RS) (h:Hd):RS:=if h.kind=21∧h.text∉s.names then s.fail h.pos 13 else s
def pre (s:RS) (h:Hd):RS:=(s.pre1 h).pre2 h
def po1 (s:RS) (h:Hd):RS:=if h.text∈s.names.drop s.out then s.fail h.pos 10 else s
def post (s:RS) (h:Hd):RS:=if h.kind=20 then { s.po1 h with names:=s.names++[h.text] } else s
end RS
inductive Rm where
 | all
 | kids (h:Hd)
 | fnb
def rC:Rm→RS→Fo→RS
 | .all,s,.nil=>s
 | .all,s,.cons h k r=>rC .all (
   if h.kind=26 then (s.funH h).join (rC .fnb ((s.funH h).fnb h.names) k)
   else if h.kind=25 then s.join (rC .all (s.sub [] false) k)
   else (rC (.kids h) (s.pre h) k).post h) r
 | .kids _,s,.nil=>s
 | .kids h,s,.cons y k r=>rC (.kids h) (
   if y.kind < 20 then s.use (.cons y k .nil)
   else if y.kind=22 then (rC (.kids y) (s.pre y) k).post y
   else if h.kind=24 then s.join (rC .all (s.sub [h.text] true) k)
   else s.join (rC .all (s.sub [] (decide (h.kind=23))) k)) r
 | .fnb,s,.nil=>s
 | .fnb,s,.cons _ k _=>rC .all s k
def rO (s:RS) (h:Hd) (k:Fo):RS:=
 if h.kind=26 then (s.funH h).join (rC .fnb ((s.funH h).fnb h.names) k)
 else if h.kind=25 then s.join (rC .all (s.sub [] false) k)
 else (rC (.kids h) (s.pre h) k).post h
theorem rC_cons (s:RS) (h:Hd) (k r:Fo):rC .all s (.cons h k r)=rC .all (rO s h k) r:=by simp only [rC,rO]
def rK (h:Hd) (s:RS) (y:Hd) (k:Fo):RS:=
 if y.kind < 20 then s.use (.cons y k .nil)
 else if y.kind=22 then (rC (.kids y) (s.pre y) k).post y
 else if h.kind=24 then s.join (rC .all (s.sub [h.text] true) k)
 else s.join (rC .all (s.sub [] (decide (h.kind=23))) k)
theorem rK_cons (h:Hd) (s:RS) (y:Hd) (k r:Fo):rC (.kids h) s (.cons y k r)=rC (.kids h) (rK h s y k) r:=by simp only [rC,rK]

/-! An error that is found stays. -/
structure Kp (s s':RS):Prop where
 k:s.e≠0→s'.pos=s.pos∧s'.e=s.e
 z:s'.e=0→s'.pos=s.pos
theorem Kp.refl (s:RS):Kp s s:=⟨fun _=>⟨rfl,rfl⟩,fun _=>rfl⟩
theorem Kp.trans {a b c:RS} (h:Kp a b) (h2:Kp b c):Kp a c:=by
 refine ⟨fun he=>?_,fun he=>?_⟩
 ·obtain ⟨h3,h4⟩:=h.k he
  obtain ⟨h5,h6⟩:=h2.k (by rw [h4]; exact he)
  exact ⟨h5.trans h3,h6.trans h4⟩
 ·have hb:b.e=0:=by
   by_cases hb:b.e=0
   ·exact hb
   ·have:=(h2.k hb).2; omega
  exact (h2.z he).trans (h.z hb)
theorem kp_fail (s:RS) (p:Int) {k:Nat} (hk:k≠0):Kp s (s.fail p k):=by
 unfold RS.fail;by_cases he:s.e=0
 ·rw [if_pos he]; exact ⟨fun h=>absurd he h,fun h=>absurd h hk⟩
 ·rw [if_neg he]; exact Kp.refl s
theorem kp_use:∀(F:Fo) (s:RS),Kp s (s.use F):=by
 intro F;induction F with
 | nil=>intro s; exact Kp.refl s
 | cons h k r ihk ihr=>
  intro s;simp only [RS.use];refine Kp.trans ?_ (Kp.trans (ihk _) (ihr _));split
  ·exact kp_fail _ _ (by decide)
  ·exact Kp.refl s
theorem kp_join (s t:RS):Kp s (s.join t):=by
 unfold RS.join;split
 ·rename_i h; exact kp_fail _ _ h.2
 ·exact Kp.refl s
theorem kp_ite (s a b:RS) (c:Prop) [Decidable c] (ha:Kp s a) (hb:Kp s b):Kp s (if c then a else b):=by split <;> assumption
theorem kp_funH (s:RS) (h:Hd):Kp s (s.funH h):=by
 unfold RS.funH;have h1:Kp s (s.fh1 h):=kp_ite _ _ _ _ (kp_fail _ _ (by decide)) (Kp.refl _)
 have h2:∀s:RS,Kp s (s.fh2 h):=fun s=>kp_ite _ _ _ _ (kp_fail _ _ (by decide)) (Kp.refl _)
 have h3:∀s:RS,Kp s (s.fh3 h):=fun s=>⟨fun _=>⟨rfl,rfl⟩,fun _=>rfl⟩
 have h4:∀s:RS,Kp s (s.fh4 h):=fun s=>kp_ite _ _ _ _ (kp_fail _ _ (by decide)) (Kp.refl _)
 exact ((h1.trans (h2 _)).trans (h3 _)).trans (h4 _)
theorem kp_pre (s:RS) (h:Hd):Kp s (s.pre h):=by
 have h1:Kp s (s.pre1 h):=kp_ite _ _ _ _ (kp_fail _ _ (by decide)) (Kp.refl _)
 have h2:∀s:RS,Kp s (s.pre2 h):=fun s=>kp_ite _ _ _ _ (kp_fail _ _ (by decide)) (Kp.refl _)
 exact h1.trans (h2 _)
theorem kp_post (s:RS) (h:Hd):Kp s (s.post h):=by
 unfold RS.post;refine kp_ite _ _ _ _ ?_ (Kp.refl _);have h1:Kp s (s.po1 h):=kp_ite _ _ _ _ (kp_fail _ _ (by decide)) (Kp.refl _)
 exact h1.trans ⟨fun _=>⟨rfl,rfl⟩,fun _=>rfl⟩
theorem kp_rC:∀(F:Fo) (m:Rm) (s:RS),Kp s (rC m s F):=by
 intro F;induction F with
 | nil=>intro m s; cases m <;> exact Kp.refl s
 | cons h k r ihk ihr=>
  intro m s
  cases m with
  | all=>
   rw [rC_cons];refine Kp.trans ?_ (ihr _ _);unfold rO;refine kp_ite _ _ _ _ ((kp_funH _ _).trans (kp_join _ _)) (kp_ite _ _ _ _ (kp_join _ _) (((kp_pre _ _).trans (ihk _ _)).trans (kp_post _ _)))
  | kids x=>
   rw [rK_cons];refine Kp.trans ?_ (ihr _ _);unfold rK;exact kp_ite _ _ _ _ (kp_use _ _) (kp_ite _ _ _ _ (((kp_pre _ _).trans (ihk _ _)).trans (kp_post _ _)) (kp_ite _ _ _ _ (kp_join _ _) (kp_join _ _)))
  | fnb=>exact ihk _ _

/-! What both know. -/
structure RR (c:CS) (s:RS):Prop where
 e:s.e=0
 vis:∀n,visC c.ss n=true↔n∈s.names
 hd:∀n,n∈c.ss.headD []↔n∈s.names.drop s.out
 le:s.out≤s.names.length
 inF:s.inF=c.inF
 inL:s.inL=decide (c.lo≠0)
 ne:c.ss≠[]
structure RT (p:Bool) (c:CS) (s:RS):Prop where
 top:s.top=p
 fs:p=true→(∀n,n∈c.fs↔n∈s.fs)∧c.lo=0∧c.inF=false
structure Kc (p:Bool) (c c':CS):Prop where
 tl:c'.ss.tail=c.ss.tail
 lo:c'.lo=c.lo
 inF:c'.inF=c.inF
 fs:p=false→c'.fs=c.fs
theorem Kc.refl (p:Bool) (c:CS):Kc p c c:=⟨rfl,rfl,rfl,fun _=>rfl⟩
theorem Kc.trans {p:Bool} {a b c:CS} (h:Kc p a b) (h2:Kc p b c):Kc p a c:=⟨h2.tl.trans h.tl,h2.lo.trans h.lo,h2.inF.trans h.inF,fun hp=>(h2.fs hp).trans (h.fs hp)⟩
def Bad (s:RS) (x:Int×Nat):Prop:=s.pos=x.1∧s.e=x.2∧x.2≠0
theorem Bad.keep {s s':RS} {x:Int×Nat} (h:Bad s x) (hk:Kp s s'):Bad s' x:=by
 obtain ⟨h1,h2,h3⟩:=h
 obtain ⟨h4,h5⟩:=hk.k (by rw [h2]; exact h3)
 exact ⟨h4.trans h1,h5.trans h2,h3⟩
theorem fail_bad {s:RS} (h:s.e=0) (p:Int) {k:Nat} (hk:k≠0):Bad (s.fail p k) (p,k):=by unfold RS.fail; rw [if_pos h]; exact ⟨rfl,rfl,hk⟩
theorem join_ok {s t:RS} (h:t.e=0):s.join t=s:=by unfold RS.join; rw [if_neg]; rintro ⟨_,h2⟩; exact h2 h
theorem join_bad {s t:RS} (hs:s.e=0) {x:Int×Nat} (h:Bad t x):Bad (s.join t) x:=by
 obtain ⟨h1,h2,h3⟩:=h
 unfold RS.join;rw [if_pos ⟨hs,by rw [h2]; exact h3⟩,h1,h2]
 exact fail_bad hs _ h3
theorem use_eq:∀(F:Fo) (ss:List (List Nm)) (s:RS),s.e=0→(∀n,visC ss n=true↔n∈s.names)→match exC ss F with | .error x=>Bad (s.use F) x | .ok _=>s.use F=s:=by
 intro F;induction F with
 | nil=>intro ss s _ _; rfl
 | cons h k r ihk ihr=>
  intro ss s he hv;simp only [exC,RS.use];by_cases hc:h.kind=3∧visC ss h.text=false
  ·rw [if_pos hc]
   have h2:h.text∉s.names:=fun hm=>by have:=(hv _).2 hm; rw [hc.2] at this; cases this
   rw [if_pos ⟨hc.1,h2⟩];exact (fail_bad he _ (by decide)).keep (Kp.trans (kp_use _ _) (kp_use _ _))
  ·rw [if_neg hc]
   have hc2:¬ (h.kind=3∧h.text∉s.names):=fun h2=>hc ⟨h2.1,by
    cases hq:visC ss h.text with
    | false=>rfl
    | true=>exact absurd ((hv _).1 hq) h2.2⟩
   rw [if_neg hc2];have h1:=ihk ss s he hv
   cases hk:exC ss k with
   | error x=>
    rw [hk] at h1;exact Bad.keep h1 (kp_use _ _)
   | ok u=>
    rw [hk] at h1;simp only at h1;rw [h1];exact ihr ss s he hv
theorem rr_sub {c:CS} {s:RS} (h:RR c s) (ns:List Nm):RR (c.push ns) (s.sub ns false):=by
 refine ⟨h.e,fun n=>?_,fun n=>?_,?_,h.inF,?_,by simp [CS.push]⟩
 ·have:=h.vis n
  unfold visC at this ⊢;simp only [CS.push,RS.sub,List.any_cons,Bool.or_eq_true,decide_eq_true_eq,List.mem_append];rw [this,Or.comm]
 ·simp only [CS.push,RS.sub,List.headD_cons,List.drop_left]
 ·simp [RS.sub]
 ·simp only [RS.sub,Bool.or_false,h.inL,CS.push]
  rfl
theorem rr_loop {c:CS} {s:RS} (h:RR c s) (ns:List Nm):RR (({ c with lo:=c.lo+1 }:CS).push ns) (s.sub ns true):=by
 obtain ⟨a1,a2,a3,a4,a5,-,a7⟩:=rr_sub h ns
 exact ⟨a1,a2,a3,a4,a5,by simp [RS.sub,CS.push],a7⟩
theorem cs_eq {c c':CS} (h1:c'.ss=c.ss) (h2:c'.lo=c.lo) (h3:c'.inF=c.inF) (h4:c'.fs=c.fs):c'=c:=by
 cases c; cases c'
 simp_all
def EqA (F:Fo):Prop:=∀(p:Bool) (c:CS) (s:RS),RR c s→RT p c s→match ckC (.st p) c F with | .error x=>Bad (rC .all s F) x | .ok c'=>RR c' (rC .all s F)∧RT p c' (rC .all s F)∧Kc p c c'
theorem eq_block {F:Fo} (h:EqA F) {c:CS} {s:RS} (hr:RR c s) (ns:List Nm):match (ckC (.st false) (c.push ns) F).then fun s'=>.ok s'.pop with | .error x=>Bad (s.join (rC .all (s.sub ns false) F)) x | .ok c'=>c'=c∧s.join (rC .all (s.sub ns false) F)=s:=by
 have h1:=h false (c.push ns) (s.sub ns false) (rr_sub hr ns) ⟨rfl,fun hp=>by cases hp⟩
 cases hk:ckC (.st false) (c.push ns) F with
 | error x=>rw [hk] at h1; exact join_bad hr.e h1
 | ok c'=>
  rw [hk] at h1;obtain ⟨h2,-,h4⟩:=h1;exact ⟨cs_eq h4.tl h4.lo h4.inF (h4.fs rfl),join_ok h2.e⟩
theorem eq_loop {F:Fo} (h:EqA F) {c:CS} {s:RS} (hr:RR c s) (ns:List Nm):match (ckC (.st false) (({ c with lo:=c.lo+1 }:CS).push ns) F).then fun s'=>.ok { s'.pop with lo:=c.lo } with | .error x=>Bad (s.join (rC .all (s.sub ns true) F)) x | .ok c'=>c'=c∧s.join (rC .all (s.sub ns true) F)=s:=by
 have h1:=h false (({ c with lo:=c.lo+1 }:CS).push ns) (s.sub ns true) (rr_loop hr ns) ⟨rfl,fun hp=>by cases hp⟩
 cases hk:ckC (.st false) (({ c with lo:=c.lo+1 }:CS).push ns) F with
 | error x=>rw [hk] at h1; exact join_bad hr.e h1
 | ok c'=>
  rw [hk] at h1;obtain ⟨h2,-,h4⟩:=h1;exact ⟨cs_eq h4.tl rfl h4.inF (h4.fs rfl),join_ok h2.e⟩
theorem exH_lt {h:Hd} {n:Nat} (hh:exH h n=true):h.kind < 20:=by
 unfold exH at hh;simp only [Bool.and_eq_true] at hh;have:=hh.2;by_cases c1:h.kind=1
 ·omega
 rw [if_neg c1] at this;by_cases c2:h.kind=2
 ·omega
 rw [if_neg c2] at this;by_cases c3:h.kind=3
 ·omega
 rw [if_neg c3] at this;by_cases c4:h.kind=4
 ·omega
 rw [if_neg c4] at this;by_cases c5:h.kind=5
 ·omega
 rw [if_neg c5] at this;by_cases c6:h.kind=6
 ·omega
 rw [if_neg c6] at this;by_cases c7:h.kind=7
 ·omega
 rw [if_neg c7] at this;by_cases c8:h.kind=8
 ·omega
 rw [if_neg c8] at this;simp at this;omega
theorem rK_ex {h:Hd} {s:RS} {y:Hd} {k:Fo} (hy:y.kind < 20):rK h s y k=s.use (.cons y k .nil):=by unfold rK; rw [if_pos hy]
theorem exC_node (ss:List (List Nm)) (h:Hd) (k:Fo):exC ss (.cons h k .nil)=if h.kind=3∧visC ss h.text=false then .error (h.pos,13) else exC ss k:=by
 rw [exC_one]; rfl
theorem pre_id {s:RS} {h:Hd} (h1:h.kind≠29) (h2:h.kind≠27) (h3:h.kind≠21):s.pre h=s:=by
 unfold RS.pre RS.pre1 RS.pre2;rw [if_neg (by omega),if_neg (by omega)]
theorem post_id {s:RS} {h:Hd} (h1:h.kind≠20):s.post h=s:=by unfold RS.post; rw [if_neg h1]
theorem rq_ex {t:List Ro} {k:Fo} (h:rt (.sq (.ex::t)) k=true):∃h0 k0 r,k=.cons h0 k0 r∧exH h0 k0.len=true∧rt .ex k0=true∧rt (.sq t) r=true:=by
 cases k with
 | nil=>simp [rt] at h
 | cons h0 k0 r=>simp only [rt,Bool.and_eq_true] at h; exact ⟨h0,k0,r,rfl,h.1.1,h.1.2,h.2⟩
theorem rq_bl {t:List Ro} {k:Fo} (h:rt (.sq (.bl::t)) k=true):∃h0 k0 r,k=.cons h0 k0 r∧h0.kind=25∧stN h0 k0=true∧rt (.sq t) r=true:=by
 cases k with
 | nil=>simp [rt] at h
 | cons h0 k0 r=>simp only [rt,Bool.and_eq_true,decide_eq_true_eq] at h; exact ⟨h0,k0,r,rfl,h.1.1.1,by unfold stN; rw [h.1.1.2,h.1.2]; rfl,h.2⟩
theorem rq_bi {t:List Ro} {k:Fo} (h:rt (.sq (.bi::t)) k=true):∃h0 k0 r,k=.cons h0 k0 r∧(h0.kind=25∨h0.kind=22)∧stN h0 k0=true∧rt (.sq t) r=true:=by
 cases k with
 | nil=>simp [rt] at h
 | cons h0 k0 r=>simp only [rt,Bool.and_eq_true,Bool.or_eq_true,decide_eq_true_eq] at h; exact ⟨h0,k0,r,rfl,h.1.1.1,by unfold stN; rw [h.1.1.2,h.1.2]; rfl,h.2⟩
theorem rq_nil {k:Fo} (h:rt (.sq []) k=true):k=.nil:=by
 cases k with
 | nil=>rfl
 | cons h0 k0 r=>simp [rt] at h
def Lk (r:CE CS) (c:CS) (s s':RS):Prop:=match r with | .error x=>Bad s' x | .ok c'=>c'=c∧s'=s
theorem lk_ex {c:CS} {s:RS} (hr:RR c s) (F:Fo) (r:CE CS) (g:RS→RS) (hg:∀s,Kp s (g s)) (h:Lk r c s (g s)):Lk ((exC c.ss F).then fun _=>r) c s (g (s.use F)):=by
 have h1:=use_eq F c.ss s hr.e hr.vis
 cases hk:exC c.ss F with
 | error x=>rw [hk] at h1; exact Bad.keep h1 (hg _)
 | ok u=>
  rw [hk] at h1;simp only at h1;rw [h1];exact h
theorem lk_then {c:CS} {s:RS} (r:CE CS) (f:CS→CE CS) (g:RS→RS) (s':RS) (hg:∀s,Kp s (g s)) (h:Lk r c s s') (h2:Lk (f c) c s (g s)):Lk (r.then f) c s (g s'):=by
 cases r with
 | error x=>exact Bad.keep h (hg _)
 | ok c'=>
  obtain ⟨rfl,rfl⟩:=h
  exact h2
theorem kp_kids (h:Hd) (F:Fo):∀s,Kp s (rC (.kids h) s F):=fun s=>kp_rC F _ s
def SIf (N:Nat):Prop:=∀(h:Hd) (k:Fo),k.size < N→h.kind=22→stN h k=true→∀c s,RR c s→Lk (ckC .iff c k) c s (rC (.kids h) s k)
def SAl (N:Nat):Prop:=∀F,F.size < N→rt .st F=true→EqA F
theorem lk_block {N:Nat} (hA:SAl N) {h:Hd} {k:Fo} (hk:k.size < N) (h25:h.kind=25) (hs:stN h k=true) {c:CS} {s:RS} (hr:RR c s):Lk (stD false c h k) c s (s.join (rC .all (s.sub [] false) k)):=by
 unfold stN at hs;simp only [Bool.and_eq_true] at hs;have hkk:=hs.2;unfold kidM at hkk;rw [if_neg (by omega),if_neg (by omega),if_neg (by omega),if_neg (by omega),if_pos h25] at hkk
 unfold stD;rw [if_neg (by omega),if_neg (by omega),if_neg (by omega),if_neg (by omega),if_neg (by omega),if_pos h25]
 exact eq_block (hA k hk hkk) hr []
theorem lk_kid {N:Nat} (hA:SAl N) (hI:SIf N) {x h:Hd} {k:Fo} (hk:k.size < N) (hx:x.kind=22) (hb:h.kind=25∨h.kind=22) (hs:stN h k=true) {c:CS} {s:RS} (hr:RR c s):Lk (stD false c h k) c s (rK x s h k):=by
 unfold rK;rcases hb with hb | hb
 ·rw [if_neg (by omega),if_neg (by omega),if_neg (by omega),show decide (x.kind=23)=false by simp [hx]]
  exact lk_block hA hk hb hs hr
 ·rw [if_neg (by omega),if_pos hb,pre_id (by omega) (by omega) (by omega),post_id (by omega)]
  unfold stD;rw [if_neg (by omega),if_neg (by omega),if_pos hb]
  exact hI h k hk hb hs c s hr
theorem ckC_iff (c:CS) (h:Hd) (k r:Fo):ckC .iff c (.cons h k r)=if h.kind=3∧visC c.ss h.text=false then .error (h.pos,13) else (exC c.ss k).then fun _=>ckC (.st false) c r:=by simp only [ckC]
theorem ckC_loop1 (c:CS) (ns:List Nm) (h:Hd) (k:Fo):ckC (.loop ns) c (.cons h k .nil)=(ckC (.st false) (({ c with lo:=c.lo+1 }:CS).push ns) k).then fun s'=>.ok { s'.pop with lo:=c.lo }:=by simp only [ckC]
theorem ckC_loop2 (c:CS) (ns:List Nm) (h h2:Hd) (k k2 r:Fo):ckC (.loop ns) c (.cons h k (.cons h2 k2 r))=if h.kind=3∧visC c.ss h.text=false then .error (h.pos,13) else (exC c.ss k).then fun _=>ckC (.loop ns) c (.cons h2 k2 r):=by simp only [ckC]
theorem rckC_fnb (c:CS) (ns:List Nm) (h:Hd) (k r:Fo):ckC (.fnb ns) c (.cons h k r)=(ckC (.st false) { c with ss:=[ns],inF:=true } k).then fun s'=>.ok { s' with ss:=c.ss,inF:=false }:=by simp only [ckC]
theorem sif_succ {N:Nat} (hA:SAl N) (hI:SIf N):SIf (N+1):=by
 intro h k hN h22 hs c s hr;unfold stN at hs;simp only [Bool.and_eq_true] at hs;have hk:=hs.2;unfold kidM at hk;rw [if_neg (by omega),if_pos h22] at hk
 have fin:∀c,ckC (.st false) c .nil=.ok c:=fun _=>rfl
 by_cases h3:k.len=3
 ·rw [if_pos h3] at hk
  obtain ⟨h0,k0,r0,rfl,e1,e2,e3⟩:=rq_ex hk
  obtain ⟨h1,k1,r1,rfl,f0,f1,f3⟩:=rq_bl e3
  obtain ⟨h2,k2,r2,rfl,g0,g1,g3⟩:=rq_bi f3
  obtain rfl:=rq_nil g3
  simp only [Fo.size] at hN;have he:ckC .iff c (.cons h0 k0 (.cons h1 k1 (.cons h2 k2 .nil)))=(exC c.ss (.cons h0 k0 .nil)).then fun _=>(stD false c h1 k1).then fun c'=>stD false c' h2 k2:=by
   rw [exC_node,ckC_iff];split
   ·rfl
   ·congr 1
    funext _
    rw [show ckC (.st false) c (.cons h1 k1 (.cons h2 k2 .nil))=_ from ckC_cons _ _ _ _ _]
    congr 1
    funext c'
    exact ckC_one _ _ _ _
  rw [he,rK_cons,rK_cons,rK_cons,rK_ex (exH_lt e1)];refine lk_ex hr _ _ (fun s=>rC (.kids h) (rK h (rK h s h1 k1) h2 k2) .nil) (fun s=>?_) ?_
  ·have:rC (.kids h) (rK h (rK h s h1 k1) h2 k2) .nil=rC (.kids h) s (.cons h1 k1 (.cons h2 k2 .nil)):=by rw [rK_cons,rK_cons]
   rw [this];exact kp_kids _ _ _
  ·refine lk_then _ _ (fun s=>rC (.kids h) (rK h s h2 k2) .nil) _ (fun s=>?_) (lk_kid hA hI (by omega) h22 (Or.inl f0) f1 hr) ?_
   ·have:rC (.kids h) (rK h s h2 k2) .nil=rC (.kids h) s (.cons h2 k2 .nil):=by rw [rK_cons]
    rw [this];exact kp_kids _ _ _
   ·exact lk_kid hA hI (by omega) h22 g0 g1 hr
 ·rw [if_neg h3] at hk
  obtain ⟨h0,k0,r0,rfl,e1,e2,e3⟩:=rq_ex hk
  obtain ⟨h1,k1,r1,rfl,f0,f1,f3⟩:=rq_bl e3
  obtain rfl:=rq_nil f3
  simp only [Fo.size] at hN;have he:ckC .iff c (.cons h0 k0 (.cons h1 k1 .nil))=(exC c.ss (.cons h0 k0 .nil)).then fun _=>stD false c h1 k1:=by
   rw [exC_node,ckC_iff];split
   ·rfl
   ·congr 1
    funext _
    exact ckC_one _ _ _ _
  rw [he,rK_cons,rK_cons,rK_ex (exH_lt e1)];refine lk_ex hr _ _ (fun s=>rC (.kids h) (rK h s h1 k1) .nil) (fun s=>?_) (lk_kid hA hI (by omega) h22 (Or.inl f0) f1 hr)
  have:rC (.kids h) (rK h s h1 k1) .nil=rC (.kids h) s (.cons h1 k1 .nil):=by rw [rK_cons]
  rw [this];exact kp_kids _ _ _
def EqS (h:Hd) (k:Fo):Prop:=∀(p:Bool) (c:CS) (s:RS),RR c s→RT p c s→match stD p c h k with | .error x=>Bad (rO s h k) x | .ok c'=>RR c' (rO s h k)∧RT p c' (rO s h k)∧Kc p c c'
theorem lk_eqS {h:Hd} {k:Fo} {p:Bool} {c:CS} {s:RS} (hr:RR c s) (ht:RT p c s) (hl:Lk (stD p c h k) c s (rO s h k)):match stD p c h k with | .error x=>Bad (rO s h k) x | .ok c'=>RR c' (rO s h k)∧RT p c' (rO s h k)∧Kc p c c':=by
 revert hl
 cases stD p c h k with
 | error x=>exact fun hl=>hl
 | ok c'=>
  rintro ⟨rfl,h2⟩;rw [h2];exact ⟨hr,ht,Kc.refl _ _⟩
theorem rr_decl {c:CS} {s:RS} (h:RR c s) (n:Nm):RR (c.decl n) { s with names:=s.names++[n] }:=by
 obtain ⟨l,t,hl⟩:∃l t,c.ss=l::t:=by
  cases hs:c.ss with
  | nil=>exact absurd hs h.ne
  | cons l t=>exact ⟨l,t,rfl⟩
 have hv:=h.vis
 have hh:=h.hd
 refine ⟨h.e,fun m=>?_,fun m=>?_,?_,h.inF,h.inL,by simp [CS.decl,hl]⟩
 ·have:=hv m
  unfold visC at this ⊢;simp only [CS.decl,hl,List.any_cons,Bool.or_eq_true,decide_eq_true_eq,List.mem_cons,List.mem_append,List.not_mem_nil,or_false] at this ⊢;rw [← this];constructor
  ·rintro ((h1 | h1) | h1)
   ·exact Or.inr h1
   ·exact Or.inl (Or.inl h1)
   ·exact Or.inl (Or.inr h1)
  ·rintro ((h1 | h1) | h1)
   ·exact Or.inl (Or.inr h1)
   ·exact Or.inr h1
   ·exact Or.inl (Or.inl h1)
 ·have:=hh m
  rw [hl] at this;simp only [CS.decl,hl,List.headD_cons,List.mem_cons] at this ⊢;rw [List.drop_append_of_le_length h.le,List.mem_append,← this];simp only [List.mem_cons,List.not_mem_nil,or_false];exact Or.comm
 ·have:=h.le
  simp only [List.length_append];omega
theorem eqS_of {N:Nat} (hA:SAl N) (hI:SIf N) (h:Hd) (k:Fo) (hN:k.size < N) (hs:stN h k=true):EqS h k:=by
 intro p c s hr ht;have hs2:=hs;unfold stN at hs;simp only [Bool.and_eq_true] at hs;have hk:=hs.2;have hst:=hs.1;unfold stH at hst;simp only [Bool.and_eq_true,decide_eq_true_eq] at hst;have hkind:=hst.1.1.1.1;unfold kidM at hk;by_cases c0:h.kind=20
 ·rw [if_pos (Or.inl c0)] at hk
  obtain ⟨h0,k0,r,rfl,e1,e2,e3⟩:=rq_ex hk
  obtain rfl:=rq_nil e3
  have n25:¬ h.kind=25:=by omega
  have n26:¬ h.kind=26:=by omega
  unfold stD rO;rw [if_pos c0,if_neg n26,if_neg n25,pre_id (by omega) (by omega) (by omega),rK_cons,rK_ex (exH_lt e1)]
  have h1:=use_eq (.cons h0 k0 .nil) c.ss s hr.e hr.vis
  cases hq:exC c.ss (.cons h0 k0 .nil) with
  | error x=>rw [hq] at h1; exact Bad.keep h1 (kp_post _ _)
  | ok u=>
   rw [hq] at h1;simp only at h1;rw [show rC (.kids h) (s.use (.cons h0 k0 .nil)) .nil=s.use (.cons h0 k0 .nil) from rfl,h1]
   unfold RS.post RS.po1;rw [if_pos c0];show match (if h.text∈c.ss.headD [] then .error (h.pos,10) else .ok (c.decl h.text):CE CS) with | .error x=>_ | .ok c'=>_
   by_cases hm:h.text∈c.ss.headD []
   ·have hm2:=(hr.hd _).1 hm
    rw [if_pos hm,if_pos hm2];exact (fail_bad hr.e h.pos (k:=10) (by decide)).keep ⟨fun _=>⟨rfl,rfl⟩,fun _=>rfl⟩
   ·have hm2:¬ h.text∈s.names.drop s.out:=fun h2=>hm ((hr.hd _).2 h2)
    rw [if_neg hm,if_neg hm2];have hd:=rr_decl hr h.text;refine ⟨hd,⟨ht.top,fun hp=>ht.fs hp⟩,⟨?_,rfl,rfl,fun _=>rfl⟩⟩
    simp only [CS.decl]
    cases c.ss <;> rfl
 have n20:¬ h.kind=20:=c0
 by_cases c1:h.kind=21
 ·rw [if_pos (Or.inr (Or.inl c1))] at hk
  obtain ⟨h0,k0,r,rfl,e1,e2,e3⟩:=rq_ex hk
  obtain rfl:=rq_nil e3
  have n25:¬ h.kind=25:=by omega
  have n26:¬ h.kind=26:=by omega
  refine lk_eqS hr ht ?_
  unfold stD rO;rw [if_neg n20,if_pos c1,if_neg n26,if_neg n25,post_id n20];have hp:s.pre h=if h.text∉s.names then s.fail h.pos 13 else s:=by
   have hp1:s.pre1 h=s:=by unfold RS.pre1; rw [if_neg]; rintro (h2 | h2) <;> omega
   show (s.pre1 h).pre2 h=_
   rw [hp1];unfold RS.pre2;by_cases hm:h.text∈s.names
   ·rw [if_neg (fun h2=>h2.2 hm),if_neg (fun h2=>h2 hm)]
   ·rw [if_pos ⟨c1,hm⟩,if_pos hm]
  rw [hp];by_cases hv:visC c.ss h.text=false
  ·have hm:h.text∉s.names:=fun hm=>by have:=(hr.vis _).2 hm; rw [hv] at this; cases this
   rw [if_pos hv,if_pos hm];exact (fail_bad hr.e h.pos (k:=13) (by decide)).keep (kp_kids _ _ _)
  ·have hm:¬ h.text∉s.names:=fun hm=>hm ((hr.vis _).1 (by simpa using hv))
   rw [if_neg hv,if_neg hm,rK_cons,rK_ex (exH_lt e1)];exact lk_ex hr _ (.ok c) (fun s=>rC (.kids h) s .nil) (fun s=>kp_kids _ _ _) ⟨rfl,rfl⟩
 have n21:¬ h.kind=21:=c1
 by_cases c8:h.kind=28
 ·rw [if_pos (Or.inr (Or.inr c8))] at hk
  obtain ⟨h0,k0,r,rfl,e1,e2,e3⟩:=rq_ex hk
  obtain rfl:=rq_nil e3
  have n25:¬ h.kind=25:=by omega
  have n26:¬ h.kind=26:=by omega
  refine lk_eqS hr ht ?_
  unfold stD rO;rw [if_neg n20,if_neg n21,if_neg (show ¬ h.kind=22 by omega),if_neg (show ¬ h.kind=23 by omega),if_neg (show ¬ h.kind=24 by omega),if_neg n25,if_neg n26,if_neg (show ¬ h.kind=27 by omega),if_pos c8,if_neg n26,if_neg n25,post_id n20,pre_id (by omega) (by omega) n21,rK_cons,rK_ex (exH_lt e1)]
  exact lk_ex hr _ (.ok c) (fun s=>rC (.kids h) s .nil) (fun s=>kp_kids _ _ _) ⟨rfl,rfl⟩
 rw [if_neg (by omega)] at hk
 by_cases c2:h.kind=22
 ·have n25:¬ h.kind=25:=by omega
  have n26:¬ h.kind=26:=by omega
  refine lk_eqS hr ht ?_
  unfold stD rO;rw [if_neg n20,if_neg n21,if_pos c2,if_neg n26,if_neg n25,post_id n20,pre_id (by omega) (by omega) n21]
  exact hI h k hN c2 hs2 c s hr
 rw [if_neg c2] at hk;by_cases c3:h.kind=23
 ·rw [if_pos c3] at hk
  obtain ⟨h0,k0,r0,rfl,e1,e2,e3⟩:=rq_ex hk
  obtain ⟨h1,k1,r1,rfl,f0,f1,f3⟩:=rq_bl e3
  obtain rfl:=rq_nil f3
  simp only [Fo.size] at hN;have n25:¬ h.kind=25:=by omega
  have n26:¬ h.kind=26:=by omega
  refine lk_eqS hr ht ?_
  unfold stD rO;rw [if_neg n20,if_neg n21,if_neg c2,if_pos c3,if_neg n26,if_neg n25,post_id n20,pre_id (by omega) (by omega) n21]
  have he:ckC (.loop []) c (.cons h0 k0 (.cons h1 k1 .nil))=(exC c.ss (.cons h0 k0 .nil)).then fun _=>ckC (.loop []) c (.cons h1 k1 .nil):=by
   rw [exC_node,ckC_loop2];split <;> rfl
  rw [he,rK_cons,rK_cons,rK_ex (exH_lt e1)];refine lk_ex hr _ _ (fun s=>rC (.kids h) (rK h s h1 k1) .nil) (fun s=>?_) ?_
  ·have:rC (.kids h) (rK h s h1 k1) .nil=rC (.kids h) s (.cons h1 k1 .nil):=by rw [rK_cons]
   rw [this];exact kp_kids _ _ _
  ·rw [ckC_loop1]
   show Lk _ c s (rK h s h1 k1)
   unfold rK;rw [if_neg (by omega),if_neg (by omega),if_neg (by omega),show decide (h.kind=23)=true by simp [c3]]
   unfold stN at f1;simp only [Bool.and_eq_true] at f1;have hkk:=f1.2;unfold kidM at hkk;rw [if_neg (by omega),if_neg (by omega),if_neg (by omega),if_neg (by omega),if_pos f0] at hkk
   exact eq_loop (hA k1 (by omega) hkk) hr []
 rw [if_neg c3] at hk;by_cases c4:h.kind=24
 ·rw [if_pos c4] at hk
  obtain ⟨h0,k0,r0,rfl,e1,e2,e3⟩:=rq_ex hk
  obtain ⟨h2,k2,r2,rfl,g1,g2,g3⟩:=rq_ex e3
  obtain ⟨h1,k1,r1,rfl,f0,f1,f3⟩:=rq_bl g3
  obtain rfl:=rq_nil f3
  simp only [Fo.size] at hN;have n25:¬ h.kind=25:=by omega
  have n26:¬ h.kind=26:=by omega
  refine lk_eqS hr ht ?_
  unfold stD rO;rw [if_neg n20,if_neg n21,if_neg c2,if_neg c3,if_pos c4,if_neg n26,if_neg n25,post_id n20,pre_id (by omega) (by omega) n21]
  have he:ckC (.loop [h.text]) c (.cons h0 k0 (.cons h2 k2 (.cons h1 k1 .nil)))=(exC c.ss (.cons h0 k0 .nil)).then fun _=>(exC c.ss (.cons h2 k2 .nil)).then fun _=>ckC (.loop [h.text]) c (.cons h1 k1 .nil):=by
   rw [exC_node,ckC_loop2];split
   ·rfl
   ·congr 1
    funext _
    rw [exC_node,ckC_loop2];split <;> rfl
  rw [he,rK_cons,rK_cons,rK_cons,rK_ex (exH_lt e1)];refine lk_ex hr _ _ (fun s=>rC (.kids h) (rK h (rK h s h2 k2) h1 k1) .nil) (fun s=>?_) ?_
  ·have:rC (.kids h) (rK h (rK h s h2 k2) h1 k1) .nil=rC (.kids h) s (.cons h2 k2 (.cons h1 k1 .nil)):=by rw [rK_cons,rK_cons]
   rw [this];exact kp_kids _ _ _
  ·rw [rK_ex (exH_lt g1)]
   refine lk_ex hr _ _ (fun s=>rC (.kids h) (rK h s h1 k1) .nil) (fun s=>?_) ?_
   ·have:rC (.kids h) (rK h s h1 k1) .nil=rC (.kids h) s (.cons h1 k1 .nil):=by rw [rK_cons]
    rw [this];exact kp_kids _ _ _
   ·rw [ckC_loop1]
    show Lk _ c s (rK h s h1 k1)
    unfold rK;rw [if_neg (by omega),if_neg (by omega),if_pos c4]
    unfold stN at f1;simp only [Bool.and_eq_true] at f1;have hkk:=f1.2;unfold kidM at hkk;rw [if_neg (by omega),if_neg (by omega),if_neg (by omega),if_neg (by omega),if_pos f0] at hkk
    exact eq_loop (hA k1 (by omega) hkk) hr [h.text]
 rw [if_neg c4] at hk;by_cases c5:h.kind=25
 ·rw [if_pos c5] at hk
  refine lk_eqS hr ht ?_
  have n26:¬ h.kind=26:=by omega
  unfold stD rO;rw [if_neg n20,if_neg n21,if_neg c2,if_neg c3,if_neg c4,if_pos c5,if_neg n26,if_pos c5];exact eq_block (hA k (by omega) hk) hr []
 rw [if_neg c5] at hk;by_cases c6:h.kind=26
 ·rw [if_pos c6] at hk
  obtain ⟨h1,k1,r1,rfl,f0,f1,f3⟩:=rq_bl hk
  obtain rfl:=rq_nil f3
  simp only [Fo.size] at hN;unfold stN at f1;simp only [Bool.and_eq_true] at f1;have hkk:=f1.2;unfold kidM at hkk;rw [if_neg (by omega),if_neg (by omega),if_neg (by omega),if_neg (by omega),if_pos f0] at hkk
  have hAA:=hA k1 (by omega) hkk
  unfold stD rO;rw [if_neg n20,if_neg n21,if_neg c2,if_neg c3,if_neg c4,if_neg c5,if_pos c6,if_pos c6];have kp4:∀s:RS,Kp s (s.fh4 h):=fun s=>kp_ite _ _ _ _ (kp_fail _ _ (by decide)) (Kp.refl _)
  have kp3:∀s:RS,Kp s (s.fh3 h):=fun s=>⟨fun _=>⟨rfl,rfl⟩,fun _=>rfl⟩
  have kp2:∀s:RS,Kp s (s.fh2 h):=fun s=>kp_ite _ _ _ _ (kp_fail _ _ (by decide)) (Kp.refl _)
  cases p with
  | false=>
   rw [if_pos rfl];have hb:Bad (s.fh1 h) (h.pos,14):=by unfold RS.fh1; rw [if_pos ht.top]; exact fail_bad hr.e _ (by decide)
   exact hb.keep (((kp2 _).trans (kp3 _)).trans ((kp4 _).trans (kp_join _ _)))
  | true=>
   rw [if_neg (by decide)]
   obtain ⟨hfs,hlo,hinF⟩:=ht.fs rfl
   have g1:s.fh1 h=s:=by unfold RS.fh1; rw [if_neg (by rw [ht.top]; decide)]
   unfold RS.funH;rw [g1];by_cases hm:h.text∈c.fs
   ·rw [if_pos hm]
    have hb:Bad (s.fh2 h) (h.pos,10):=by unfold RS.fh2; rw [if_pos ((hfs _).1 hm)]; exact fail_bad hr.e _ (by decide)
    exact hb.keep ((kp3 _).trans ((kp4 _).trans (kp_join _ _)))
   rw [if_neg hm];have g2:s.fh2 h=s:=by unfold RS.fh2; rw [if_neg (fun h2=>hm ((hfs _).2 h2))]
   rw [g2];by_cases hd:¬ h.names.Nodup
   ·rw [if_pos hd]
    have hb:Bad ((s.fh3 h).fh4 h) (h.pos,10):=by unfold RS.fh4; rw [if_pos hd]; exact fail_bad (s:=s.fh3 h) hr.e h.pos (k:=10) (by decide)
    exact hb.keep (kp_join _ _)
   rw [if_neg hd];have g4:(s.fh3 h).fh4 h=s.fh3 h:=by unfold RS.fh4; rw [if_neg hd]
   rw [g4,rckC_fnb];have hrr:RR { c with ss:=[h.names],fs:=h.text::c.fs,inF:=true } ((s.fh3 h).fnb h.names):=by
    refine ⟨hr.e,fun n=>?_,fun n=>?_,Nat.zero_le _,rfl,?_,by simp⟩
    ·simp [visC,RS.fnb]
    ·simp [RS.fnb]
    ·simp [RS.fnb,hlo]
   have h1:=hAA false _ _ hrr ⟨rfl,fun hp=>by cases hp⟩
   show match CE.then (ckC (.st false) { c with ss:=[h.names],fs:=h.text::c.fs,inF:=true } k1) _ with | .error x=>Bad ((s.fh3 h).join (rC .all ((s.fh3 h).fnb h.names) k1)) x | .ok c'=>RR c' ((s.fh3 h).join (rC .all ((s.fh3 h).fnb h.names) k1))∧RT true c' ((s.fh3 h).join (rC .all ((s.fh3 h).fnb h.names) k1))∧Kc true c c'
   cases hk:ckC (.st false) { c with ss:=[h.names],fs:=h.text::c.fs,inF:=true } k1 with
   | error x=>rw [hk] at h1; exact join_bad (s:=s.fh3 h) hr.e h1
   | ok c'=>
    rw [hk] at h1;obtain ⟨h2,-,h4⟩:=h1;rw [join_ok h2.e];refine ⟨⟨hr.e,hr.vis,hr.hd,hr.le,?_,?_,hr.ne⟩,⟨ht.top,fun _=>⟨fun n=>?_,?_,rfl⟩⟩,⟨rfl,?_,?_,fun hp=>by cases hp⟩⟩
    ·show s.inF=false
     rw [hr.inF,hinF]
    ·show s.inL=decide (c'.lo≠0)
     rw [hr.inL,h4.lo]
    ·show n∈c'.fs↔n∈s.fs++[h.text]
     rw [h4.fs rfl];simp only [List.mem_cons,List.mem_append,List.not_mem_nil,or_false,hfs];exact Or.comm
    ·show c'.lo=0
     rw [h4.lo]; exact hlo
    ·show c'.lo=c.lo
     rw [h4.lo]
    ·show false=c.inF
     rw [hinF]
 rw [if_neg c6] at hk;refine lk_eqS hr ht ?_;unfold stD rO;rw [if_neg n20,if_neg n21,if_neg c2,if_neg c3,if_neg c4,if_neg c5,if_neg c6,if_neg c6,if_neg c5,post_id n20];have pre2:∀s:RS,s.pre2 h=s:=fun s=>by unfold RS.pre2; rw [if_neg (fun h2=>n21 h2.1)]
 have hpre:s.pre h=s.pre1 h:=pre2 _
 rw [hpre];by_cases c7:h.kind=27
 ·rw [if_pos c7] at hk ⊢
  by_cases hf:c.inF=false
  ·rw [if_pos hf]
   have hb:Bad (s.pre1 h) (h.pos,14):=by unfold RS.pre1; rw [if_pos (Or.inr ⟨c7,by rw [hr.inF]; exact hf⟩)]; exact fail_bad hr.e _ (by decide)
   exact hb.keep (kp_kids _ _ _)
  ·rw [if_neg hf]
   have g1:s.pre1 h=s:=by
    unfold RS.pre1;rw [if_neg];rintro (h2 | h2)
    ·omega
    ·exact hf (by rw [← hr.inF]; exact h2.2)
   rw [g1];by_cases h3:k.len=0
   ·rw [if_pos h3] at hk
    obtain rfl:=rq_nil hk
    exact lk_ex hr .nil (.ok c) (fun s=>s) (fun s=>Kp.refl s) ⟨rfl,rfl⟩
   ·rw [if_neg h3] at hk
    obtain ⟨h0,k0,r,rfl,e1,e2,e3⟩:=rq_ex hk
    obtain rfl:=rq_nil e3
    rw [rK_cons,rK_ex (exH_lt e1)];exact lk_ex hr _ (.ok c) (fun s=>rC (.kids h) s .nil) (fun s=>kp_kids _ _ _) ⟨rfl,rfl⟩
 rw [if_neg c7] at hk ⊢;obtain rfl:=rq_nil hk;have c9:h.kind=29:=by omega
 rw [if_neg c8,if_pos c9];show Lk _ c s (s.pre1 h)
 by_cases hl:c.lo=0
 ·rw [if_pos hl]
  unfold RS.pre1;rw [if_pos (Or.inl ⟨c9,by rw [hr.inL]; simp [hl]⟩)]
  exact fail_bad hr.e _ (by decide)
 ·rw [if_neg hl]
  refine ⟨rfl,?_⟩
  unfold RS.pre1;rw [if_neg];rintro (h2 | h2)
  ·have:=h2.2
   rw [hr.inL] at this;simp [hl] at this
  ·omega
theorem sal_of {N:Nat} (hS:∀(h:Hd) (k:Fo),k.size < N→stN h k=true→EqS h k):SAl (N+1):=by
 intro F;induction F with
 | nil=>intro _ _ p c s hr ht; exact ⟨hr,ht,Kc.refl _ _⟩
 | cons h k r _ ih=>
  intro hN hs p c s hr ht;simp only [Fo.size] at hN;simp only [rt,Bool.and_eq_true] at hs;have h1:=hS h k (by omega) (by unfold stN; rw [hs.1.1,hs.1.2]; rfl) p c s hr ht
  rw [ckC_cons,rC_cons]
  cases hq:stD p c h k with
  | error x=>rw [hq] at h1; exact Bad.keep h1 (kp_rC _ _ _)
  | ok c'=>
   rw [hq] at h1;obtain ⟨h2,h3,h4⟩:=h1;have h5:=ih (by omega) hs.2 p c' (rO s h k) h2 h3
   show match ckC (.st p) c' r with | .error x=>_ | .ok c'=>_
   cases hq2:ckC (.st p) c' r with
   | error x=>rw [hq2] at h5; exact h5
   | ok c2=>
    rw [hq2] at h5;exact ⟨h5.1,h5.2.1,h4.trans h5.2.2⟩
theorem all_eq:∀N,SAl N∧SIf N:=by
 intro N;induction N with
 | zero=>exact ⟨fun F h=>by omega,fun h k hk=>by omega⟩
 | succ N ih=>
  have h1:=sif_succ ih.1 ih.2
  refine ⟨sal_of (N:=N) fun h k hk hs=>?_,h1⟩
  exact eqS_of ih.1 ih.2 h k hk hs
def rChk (F:Fo):RS:=rC .all ⟨[],0,false,false,true,[],0,0⟩ F
theorem rchk_eq (F:Fo) (h:rt .st F=true):((rChk F).pos,(rChk F).e)=chkL F:=by
 have h1:=(all_eq (F.size+1)).1 F (Nat.lt_succ_self _) h true ⟨[[]],[],0,false⟩ ⟨[],0,false,false,true,[],0,0⟩ ⟨rfl,fun n=>by simp [visC],fun n=>by simp,Nat.le_refl _,rfl,rfl,by simp⟩ ⟨rfl,fun _=>⟨fun n=>by simp,rfl,rfl⟩⟩
 unfold chkL;rw [if_neg (by rw [h]; decide)]
 unfold rChk
 cases hk:ckC (.st true) ⟨[[]],[],0,false⟩ F with
 | error x=>rw [hk] at h1; rw [h1.1,h1.2.1]
 | ok c'=>
  rw [hk] at h1;have hz:=(kp_rC F .all ⟨[],0,false,false,true,[],0,0⟩).z h1.1.e;rw [h1.1.e,hz]
open Go.RowKit

theorem rnamed_any (s:ByteArray) (w:World) (hs:s.size≤1048576):Calls Tryz.prog 76 #[.string s] w fun e w'=>e=.returned (.bool (isNameP s.data.toList))∧w=w':=by
 have hlen:s.data.toList.length=s.size:=by simp
 have HL:=zH hlen
 have HR:=zH (fun w=>rreserved_any s w)
 have HE:Hid (isNameP s.data.toList=(decide (1≤s.size)&&nmG 0 s.data.toList&&decide (s.size≤32)&&!resv s.data.toList)):=by show _=_; rw [isNameP_eq,hlen]
 clear hlen;obtain ⟨rv,hrv⟩:∃r,resv s.data.toList=r:=⟨_,rfl⟩;rw [hrv] at HR HE;clear hrv;obtain ⟨z,hz⟩:∃z,isNameP s.data.toList=z:=⟨_,rfl⟩;rw [hz] at HE ⊢;clear hz;go_enter Tryz.func76,Tryz.ntmps76;go_wp2_with fail;go_loop [3] (fun vi=>∃i:Nat,vi=.int .i64 i∧i≤s.size∧Hid (nmG 0 (s.data.toList.take i)=true)) (fun vi=>s.size - (intOf vi).toNat)
 case atStart=>exact ⟨0,rfl,Nat.zero_le _,rfl⟩
 case round=>
  obtain ⟨i,rfl,hi,ha⟩:=hrel
  by_cases hlt:i < s.size
  ·have hcl:decide ((i:Int) < (s.size:Int))=true:=by simp; omega
   have HT:=zH (nmG_take s.data.toList 0 i (by rw [HL.out]; exact hlt))
   have HB:=zH (nmG_bad s.data.toList i (by rw [HL.out]; exact hlt))
   rw [Nat.zero_add] at HT;have hcb:=(s[i]).toNat_lt;have hgi:s.data.toList[i]'(by rw [HL.out]; exact hlt)=s[i]:=rfl
   obtain ⟨q,hq⟩:∃q,nmC i s[i]=q:=⟨_,rfl⟩
   rw [hgi,hq] at HT HB;have hcases:(s[i]).toNat≤47∨(48≤(s[i]).toNat∧(s[i]).toNat≤57)∨(58≤(s[i]).toNat∧(s[i]).toNat≤64)∨(65≤(s[i]).toNat∧(s[i]).toNat≤90)∨(91≤(s[i]).toNat∧(s[i]).toNat≤94)∨(s[i]).toNat=95∨(s[i]).toNat=96∨(97≤(s[i]).toNat∧(s[i]).toNat≤122)∨123≤(s[i]).toNat:=by omega
   have h0:(0 < i∧decide (0 < i)=true∧decide (i≠0)=true)∨(¬ 0 < i∧decide (0 < i)=false∧decide (i≠0)=false):=by
    by_cases h:0 < i
    ·exact Or.inl ⟨h,by simp [h],by simp; omega⟩
    ·exact Or.inr ⟨h,by simp; omega,by simp; omega⟩
   rcases h0 with ⟨hz0,hz1,h0⟩ | ⟨hz0,hz1,h0⟩ <;> rcases hcases with hc | hc | hc | hc | hc | hc | hc | hc | hc
   all_goals
    first | have hd0:decide ((48:Int)≤((s[i]).toNat:Int))=true:=by (simp; omega) | have hd0:decide ((48:Int)≤((s[i]).toNat:Int))=false:=by (simp; omega)
    first | have hd1:decide (((s[i]).toNat:Int)≤57)=true:=by (simp; omega) | have hd1:decide (((s[i]).toNat:Int)≤57)=false:=by (simp; omega)
    first | have hd2:decide ((97:Int)≤((s[i]).toNat:Int))=true:=by (simp; omega) | have hd2:decide ((97:Int)≤((s[i]).toNat:Int))=false:=by (simp; omega)
    first | have hd3:decide (((s[i]).toNat:Int)≤122)=true:=by (simp; omega) | have hd3:decide (((s[i]).toNat:Int)≤122)=false:=by (simp; omega)
    first | have hd4:decide ((65:Int)≤((s[i]).toNat:Int))=true:=by (simp; omega) | have hd4:decide ((65:Int)≤((s[i]).toNat:Int))=false:=by (simp; omega)
    first | have hd5:decide (((s[i]).toNat:Int)≤90)=true:=by (simp; omega) | have hd5:decide (((s[i]).toNat:Int)≤90)=false:=by (simp; omega)
    first | have hd6:(((s[i]).toNat:Int)==95)=true:=by (simp; omega) | have hd6:(((s[i]).toNat:Int)==95)=false:=by (simp; omega)
    first
     | (
       have HQ:Hid (q=false):=by
        show _=_; rw [← hq]; unfold nmC; rw [h0]; simp [let8,dig] <;> omega
       rw [HQ.out] at HB;have HZ:=zH (HB.out rfl);clear hq hc h0 hgi HQ HT HB;go_wp2_with fail;go_ret;exact ⟨ret_bool (by rw [HE.out,HZ.out]; simp),rfl⟩)
     | (
       have HQ:Hid (q=true):=by
        show _=_; rw [← hq]; unfold nmC; rw [h0]; simp [let8,dig] <;> omega
       rw [HQ.out] at HT;clear hq hc h0 hgi HQ HB;go_wp2_with fail;go_round
       case rel=>exact ⟨i+1,by go_num,by omega,by show _=_; rw [HT.out,ha.out]; rfl⟩
       case measure=>simp [intOf]; omega)
  ·have hcl:decide ((i:Int) < (s.size:Int))=false:=by simp; omega
   have ha2:Hid (nmG 0 s.data.toList=true):=by have:=ha.out; rwa [List.take_of_length_le (by rw [HL.out]; omega)] at this
   rw [ha2.out,Bool.and_true] at HE;by_cases h1:1≤s.size
   ·have e1:decide ((1:Int)≤(s.size:Int))=true:=by simp; omega
    by_cases h2:s.size≤32
    ·have e2:decide ((s.size:Int)≤32)=true:=by simp; omega
     have HZ:Hid (z=!rv):=by show _=_; rw [HE.out]; simp [h1,h2]
     clear h1 h2;go_wp2_with fail;refine (HR.out _).mono ?_;rintro e w1 ⟨rfl,rfl⟩;go_wp2_with fail;go_ret;exact ⟨ret_bool HZ.out.symm,rfl⟩
    ·have e2:decide ((s.size:Int)≤32)=false:=by simp; omega
     have HZ:Hid (z=false):=by show _=_; rw [HE.out]; simp [h2]
     clear h1 h2;go_wp2_with fail;go_ret;exact ⟨ret_bool HZ.out.symm,rfl⟩
   ·have e1:decide ((1:Int)≤(s.size:Int))=false:=by simp; omega
    have HZ:Hid (z=false):=by show _=_; rw [HE.out]; simp [h1]
    clear h1;go_wp2_with fail;go_ret;exact ⟨ret_bool HZ.out.symm,rfl⟩
def plnP (h:Hd) (t u m:Bool):Bool:=(t||h.text.isEmpty)&&(u||decide (h.num=0))&&(m||h.names.isEmpty)
theorem rplain_any (h:Hd) (t u m:Bool) (xn xk:Option Addr) (cn ck n:Nat) (w:World):
  Calls Tryz.prog 75 #[.agg (ndV h (.slice xn h.names.length cn) (.slice xk n ck)),.bool t,.bool u,.bool m] w fun e w'=>e=.returned (.bool (plnP h t u m))∧Below w.heap.size w w':=by
 have HKB:=zH (Blk.new w 31 (ndV h (.slice xn h.names.length cn) (.slice xk n ck)))
 have HBA:=zH ((Below.refl w.heap.size w).alloc (Nat.le_refl _) (.cells (ndV h (.slice xn h.names.length cn) (.slice xk n ck)) 31))
 obtain ⟨q1,h1⟩:∃q,h.text.isEmpty=q:=⟨_,rfl⟩
 obtain ⟨q2,h2⟩:∃q,decide (h.num=0)=q:=⟨_,rfl⟩
 obtain ⟨q3,h3⟩:∃q,h.names.isEmpty=q:=⟨_,rfl⟩
 have HP:Hid (plnP h t u m=((t||q1)&&(u||q2)&&(m||q3))):=by show _=_; unfold plnP; rw [h1,h2,h3]
 obtain ⟨z,hz⟩:∃z,plnP h t u m=z:=⟨_,rfl⟩
 rw [hz] at HP ⊢;have e2:(h.num==0)=q2:=by rw [← h2]; rfl
 have e3:((h.names.length:Int)==0)=q3:=by rw [← h3]; cases h.names <;> simp; omega
 clear h2 h3 hz;obtain ⟨kd,tx,nu,nm,ps⟩:=h;simp only at HKB HBA h1 e2 e3 ⊢;obtain ⟨l,hl⟩:∃l,nm.length=l:=⟨_,rfl⟩;unfold ndV at HKB HBA ⊢;simp only [hl] at HKB HBA e3 ⊢;clear hl;go_enter Tryz.func75,Tryz.ntmps75;go_upto_region 1 with fail
 generalize w.alloc (.cells #[.int .i64 kd,.string ⟨tx.toArray⟩,.int .i64 nu,.slice xn l cn,.slice xk n ck,.int .i64 ps] 31)=wz at*;generalize hA:w.heap.size=A at*;have HA:=zH hA;clear hA;have y1:wz.cell? ⟨A,1,none⟩=some (.string ⟨tx.toArray⟩):=HKB.out.cell 1;have y2:wz.cell? ⟨A,2,none⟩=some (.int .i64 nu):=HKB.out.cell 2;have y3:wz.cell? ⟨A,3,none⟩=some (.slice xn l cn):=HKB.out.cell 3
 cases t <;> cases q1 <;> cases u <;> cases q2 <;> cases m <;> cases q3
 all_goals
  go_wp2_with fail;go_ret;exact ⟨ret_bool HP.out.symm,by rw [HA.out]; exact HBA.out⟩
open Go.RowKit

def pwL:List (List UInt8):=[[124,124],[38,38],[61,61],[33,61],[60],[60,61],[62],[62,61],[43],[45],[42],[47],[37]]
def pwS:Array Value:=#[.string ⟨#[124,124]⟩,.string ⟨#[38,38]⟩,.string ⟨#[61,61]⟩,.string ⟨#[33,61]⟩,.string ⟨#[60]⟩,.string ⟨#[60,61]⟩,.string ⟨#[62]⟩,.string ⟨#[62,61]⟩,.string ⟨#[43]⟩,.string ⟨#[45]⟩,.string ⟨#[42]⟩,.string ⟨#[47]⟩,.string ⟨#[37]⟩]
def pwI:Array Value:=#[.int .i64 1,.int .i64 2,.int .i64 3,.int .i64 3,.int .i64 3,.int .i64 3,.int .i64 3,.int .i64 3,.int .i64 4,.int .i64 4,.int .i64 5,.int .i64 5,.int .i64 5]
theorem pw_at {i:Nat} (h:i < 13):∃(l:List UInt8) (n:Nat),pwL[i]?=some l∧pwS[i]?=some (.string ⟨l.toArray⟩)∧pwI[i]?=some (.int .i64 (n:Nat))∧stren l=n:=by
 match i,h with
 | 0,_ | 1,_ | 2,_ | 3,_ | 4,_ | 5,_ | 6,_ | 7,_ | 8,_ | 9,_ | 10,_ | 11,_ | 12,_=>exact ⟨_,_,rfl,rfl,rfl,by decide⟩
theorem pw_no {s:List UInt8} (h:∀j l,j < 13→pwL[j]?=some l→l≠s):stren s=0:=by
 have g:∀j l,j < 13→pwL[j]?=some l→s≠l:=fun j l h1 h2 h3=>h j l h1 h2 h3.symm
 unfold stren;rw [if_neg (show ¬ s=bytes [124,124] from g 0 _ (by decide) rfl),if_neg (show ¬ s=bytes [38,38] from g 1 _ (by decide) rfl),if_neg,if_neg,if_neg]
 ·rintro (h | h | h)
  ·exact g 10 _ (by decide) rfl h
  ·exact g 11 _ (by decide) rfl h
  ·exact g 12 _ (by decide) rfl h
 ·rintro (h | h)
  ·exact g 8 _ (by decide) rfl h
  ·exact g 9 _ (by decide) rfl h
 ·rintro (h | h | h | h | h | h)
  ·exact g 2 _ (by decide) rfl h
  ·exact g 3 _ (by decide) rfl h
  ·exact g 4 _ (by decide) rfl h
  ·exact g 5 _ (by decide) rfl h
  ·exact g 6 _ (by decide) rfl h
  ·exact g 7 _ (by decide) rfl h
theorem power_any (s:List UInt8) (w:World):Calls Tryz.prog 111 #[.string ⟨s.toArray⟩] w fun e w'=>e=.returned (.int .i64 (stren s:Nat))∧Below w.heap.size w w':=by
 have hk1:=Blk.new w 9 pwS
 have hb1:=(Below.refl w.heap.size w).alloc (Nat.le_refl _) (.cells pwS 9)
 have hk2:=Blk.new (w.alloc (.cells pwS 9)) 3 pwI
 have hb2:=hb1.trans ((Below.refl _ (w.alloc (.cells pwS 9))).alloc (by simp) (.cells pwI 3))
 have HK1:=zH (hk1.alloc (.cells pwI 3))
 have HK2:=zH hk2
 have HB2:=zH hb2
 clear hk1 hb1 hk2 hb2;obtain ⟨z,hz⟩:∃z,stren s=z:=⟨_,rfl⟩;have HZ:=zH hz;rw [hz];clear hz;go_enter Tryz.func111,Tryz.ntmps111;go_upto_region 3 with fail
 have hS:pwS=#[.string ⟨#[124,124]⟩,.string ⟨#[38,38]⟩,.string ⟨#[61,61]⟩,.string ⟨#[33,61]⟩,.string ⟨#[60]⟩,.string ⟨#[60,61]⟩,.string ⟨#[62]⟩,.string ⟨#[62,61]⟩,.string ⟨#[43]⟩,.string ⟨#[45]⟩,.string ⟨#[42]⟩,.string ⟨#[47]⟩,.string ⟨#[37]⟩]:=rfl
 have hI:pwI=#[.int .i64 1,.int .i64 2,.int .i64 3,.int .i64 3,.int .i64 3,.int .i64 3,.int .i64 3,.int .i64 3,.int .i64 4,.int .i64 4,.int .i64 5,.int .i64 5,.int .i64 5]:=rfl
 have HKS:=zH HK1.out
 have HKI:=zH HK2.out
 have HBB:=zH HB2.out
 clear HK1 HK2 HB2;rw [← hS,← hI];have hsz:(w.alloc (.cells pwS 9)).heap.size=w.heap.size+1:=by simp
 rw [hsz] at HKI;clear hS hI hsz;generalize (w.alloc (.cells pwS 9)).alloc (.cells pwI 3)=w1 at*;go_wp2_with fail;go_loopw [5] (fun vi wr=>∃i:Nat,vi=.int .i64 i∧i≤13∧wr=w1∧Hid (∀j l,j < i→pwL[j]?=some l→l≠s)) (fun vi _=>13 - (intOf vi).toNat)
 case atStart=>exact ⟨0,rfl,by omega,rfl,fun j l h=>by omega⟩
 case round=>
  obtain ⟨i,rfl,hi,rfl,hno⟩:=hrel
  by_cases hlt:i < 13
  ·have dlt:decide ((i:Int) < 13)=true:=by simp; omega
   have i1:(i:Int) < 13:=by omega
   obtain ⟨l,n,e1,e2,e3,e4⟩:=pw_at hlt
   have c1:wr.cell? ⟨w.heap.size,i,none⟩=some (.string ⟨l.toArray⟩):=by rw [HKS.out.cell i]; exact e2
   have c2:wr.cell? ⟨w.heap.size+1,i,none⟩=some (.int .i64 (n:Nat)):=by rw [HKI.out.cell i]; exact e3
   by_cases hc:l=s
   ·have hc1:(l==s)=true:=by simp [hc]
    have HE:Hid (z=n):=by show _=_; rw [← HZ.out,← hc]; exact e4
    clear hc hno e1 e2 e3 e4;go_wp2_with fail;go_ret;exact ⟨by rw [HE.out]; rfl,HBB.out⟩
   ·have hc1:(l==s)=false:=by simp [hc]
    have HN:Hid (∀j l,j < i+1→pwL[j]?=some l→l≠s):=fun j l' hj hl=>by
     by_cases hji:j < i
     ·exact hno.out j l' hji hl
     ·obtain rfl:j=i:=by omega
      rw [e1] at hl;injection hl with hl
      rw [← hl];exact hc
    clear hno e1 e2 e3 e4;go_wp2_with fail;go_roundw
    case rel=>exact ⟨i+1,by go_num,by omega,by trivial,HN⟩
    case measure=>simp [intOf]; omega
  ·have dlt:decide ((i:Int) < 13)=false:=by simp; omega
   have HE:Hid (z=0):=by show _=_; rw [← HZ.out]; exact pw_no fun j l hj hl=>hno.out j l (by omega) hl
   clear hno;go_wp2_with fail;go_ret;exact ⟨by rw [HE.out]; rfl,HBB.out⟩
open Go.RowKit

theorem rlit_run (s:ByteArray) (w:World) (hs:s.size≤1048576):Calls Tryz.prog 109 #[.string s] w fun e w'=>(∃(t:ByteArray) (x:Nat),e=.returned (.tuple #[.string t,.int .i64 (x:Nat)])∧((x:Int)==0)=litOk s.data.toList)∧w=w':=
 (rquote_any s w hs).mono fun e w' ⟨h,hb⟩=>by
  refine ⟨?_,hb⟩
  subst h;unfold litOk
  cases hl:litP s.data.toList with
  | ok l=>exact ⟨⟨l.toArray⟩,0,rfl,rfl⟩
  | error x=>
   refine ⟨⟨#[]⟩,x,rfl,?_⟩
   unfold litP at hl;split at hl
   ·cases hl; rfl
   ·split at hl
    ·cases hl; rfl
    ·cases hl
theorem exN_leaf {h:Hd} {k:Fo} {q:Bool} (hq:∀n,exH h n=(q&&decide (n=0))):exN h k=(q&&decide (k.len=0)):=by
 unfold exN;rw [hq]
 cases k with
 | nil=>simp [Fo.len,rt]
 | cons _ _ _=>simp [Fo.len]
theorem exn1 {h:Hd} {k:Fo} (hk:h.kind=1):exN h k=(plnP h false true false&&decide (k.len=0)&&decide (0≤h.num)&&decide (h.num≤4611686018427387904)):=by
 rw [exN_leaf (q:=plnP h false true false&&decide (0≤h.num∧h.num≤4611686018427387904)) (fun n=>by
  unfold exH plnP;simp only [hk,decide_true,Bool.or_true,Bool.true_and,if_true,Bool.false_or,Bool.true_or,Bool.and_true]
  cases h.names.isEmpty <;> cases h.text.isEmpty <;> simp)]
 rw [Bool.decide_and]
 cases plnP h false true false <;> cases decide (k.len=0) <;> simp
theorem exn2 {h:Hd} {k:Fo} (hk:h.kind=2):exN h k=(plnP h true false false&&decide (k.len=0)&&litOk h.text):=by
 rw [exN_leaf (q:=plnP h true false false&&litOk h.text) (fun n=>by
  unfold exH plnP;simp [hk]
  cases h.names.isEmpty <;> cases litOk h.text <;> simp)]
 cases plnP h true false false <;> cases decide (k.len=0) <;> cases litOk h.text <;> rfl
theorem exn3 {h:Hd} {k:Fo} (hk:h.kind=3):exN h k=(plnP h true false false&&decide (k.len=0)&&isNameP h.text):=by
 rw [exN_leaf (q:=plnP h true false false&&isNameP h.text) (fun n=>by
  unfold exH plnP;simp [hk]
  cases h.names.isEmpty <;> cases isNameP h.text <;> simp)]
 cases plnP h true false false <;> cases decide (k.len=0) <;> cases isNameP h.text <;> rfl
theorem exn9 {h:Hd} {k:Fo} (hk:h.kind=9∨h.kind=10):exN h k=(plnP h false false false&&decide (k.len=0)):=by
 refine exN_leaf fun n=>?_
 unfold exH plnP;rcases hk with hk | hk <;> (simp [hk]; cases h.names.isEmpty <;> cases h.text.isEmpty <;> simp)
theorem exn4 {h:Hd} {k:Fo} (hk:h.kind=4):exN h k=(rt .ex k&&plnP h false false false):=by
 unfold exN exH plnP;simp [hk]
 cases h.names.isEmpty <;> cases h.text.isEmpty <;> cases rt .ex k <;> simp
theorem exn5 {h:Hd} {k:Fo} (hk:h.kind=5):exN h k=(rt .ex k&&(plnP h true false false&&decide (k.len=1)&&(decide (h.text=[45])||decide (h.text=[33])))):=by
 unfold exN exH plnP;simp [hk,bytes]
 cases h.names.isEmpty <;> cases rt .ex k <;> cases decide (k.len=1) <;> simp
theorem exn6 {h:Hd} {k:Fo} (hk:h.kind=6):exN h k=(rt .ex k&&(plnP h true false false&&decide (k.len=2)&&decide (0 < stren h.text))):=by
 unfold exN exH plnP;simp [hk]
 cases h.names.isEmpty <;> cases rt .ex k <;> cases decide (k.len=2) <;> cases decide (0 < stren h.text) <;> simp
theorem exn7 {h:Hd} {k:Fo} (hk:h.kind=7):exN h k=(rt .ex k&&(plnP h true false false&&isNameP h.text)):=by
 unfold exN exH plnP;simp [hk]
 cases h.names.isEmpty <;> cases rt .ex k <;> cases isNameP h.text <;> simp
theorem exn8 {h:Hd} {k:Fo} (hk:h.kind=8):exN h k=(rt .ex k&&(plnP h false false false&&decide (k.len=2))):=by
 unfold exN exH plnP;simp [hk]
 cases h.names.isEmpty <;> cases rt .ex k <;> cases decide (k.len=2) <;> cases h.text.isEmpty <;> simp
theorem exn0 {h:Hd} {k:Fo} (hk:¬ (1≤h.kind∧h.kind≤10)):exN h k=false:=by
 have:exH h k.len=false:=by
  unfold exH;rw [if_neg (by omega),if_neg (by omega),if_neg (by omega),if_neg (by omega),if_neg (by omega),if_neg (by omega),if_neg (by omega),if_neg (by omega)]
  rw [show decide (h.kind=9)=false by simp; omega,show decide (h.kind=10)=false by simp; omega]
  simp
 unfold exN;rw [this];rfl
end Go.Proofs.YtbaidkefobhipaaGreatDoor
