/-
  Plain definitions: the text of a program in pieces: its tokens and the blanks between them.
  Plain law: how a text that is made of pieces is cut into tokens.
  Plain law: the pieces of a right program are cut where they should.
-/
import Derived.Test.YtbaidkefobhipaaGreatDoorZS7
import Derived.Test.YtbaidkefobhipaaGreatDoorZS0
import Derived.Test.YtbaidkefobhipaaGreatDoorZS2
namespace Go.Proofs.YtbaidkefobhipaaGreatDoor

abbrev Ky:=Nat×List UInt8
def Tk.ky (t:Tk):Ky:=(t.kind,t.text)
inductive Pc where
 | tok (k:Ky) (b:List UInt8)
 | bl (b:List UInt8)
def Pc.tx:Pc→List UInt8
 | .tok _ b=>b
 | .bl b=>b
def Pc.ks:Pc→List Ky
 | .tok k _=>[k]
 | .bl _=>[]
def txs (l:List Pc):List UInt8:=(l.map Pc.tx).flatten
def kys (l:List Pc):List Ky:=(l.map Pc.ks).flatten
theorem txs_nil:txs []=[]:=rfl
theorem kys_nil:kys []=[]:=rfl
theorem txs_cons (p:Pc) (l:List Pc):txs (p::l)=p.tx++txs l:=by simp [txs]
theorem kys_cons (p:Pc) (l:List Pc):kys (p::l)=p.ks++kys l:=by simp [kys]
theorem txs_app (a b:List Pc):txs (a++b)=txs a++txs b:=by simp [txs]
theorem kys_app (a b:List Pc):kys (a++b)=kys a++kys b:=by simp [kys]
def sg (s:List UInt8):Pc:=.tok (4,s) s
def wd (s:List UInt8):Pc:=.tok (5,s) s
def nam (s:List UInt8):Pc:=.tok (3,s) s
def sp:Pc:=.bl [32]
def wrP (b:Bool) (l:List Pc):List Pc:=if b then sg [40]::(l++[sg [41]]) else l
theorem txs_wr (b:Bool) (l:List Pc):txs (wrP b l)=opW b (txs l):=by
 cases b
 ·rfl
 ·simp [wrP,opW,txs_cons,txs_app,txs_nil,Pc.tx,sg]
abbrev Xp:=Hd×List Pc
def comT (r:List (List Pc)):List Pc:=(r.map fun y=>sg [44]::sp::y).flatten
def comP:List (List Pc)→List Pc
 | []=>[]
 | x::r=>x++comT r
theorem txs_comT (r:List (List Pc)):txs (comT r)=Lib.joinTail cm (r.map txs):=by
 induction r with
 | nil=>rfl
 | cons y r ih=>
  show txs ((sg [44]::sp::y)++comT r)=(cm++txs y)++Lib.joinTail cm (r.map txs)
  rw [txs_app,ih,txs_cons,txs_cons]
  rfl
theorem txs_com (ls:List (List Pc)):txs (comP ls)=Lib.join (ls.map txs) cm:=by
 cases ls with
 | nil=>rfl
 | cons x r=>rw [List.map_cons,Lib.join_cons,← txs_comT]; exact txs_app x (comT r)
def lisPc (b:UInt8) (ks:List Xp) (e:UInt8):List Pc:=sg [b]::(comP (ks.map (·.2))++[sg [e]])
def exPc (h:Hd) (ks:List Xp):List Pc:=
 if h.kind=1 then [.tok (1,Lib.itoa h.num) (Lib.itoa h.num)]
 else if h.kind=2 then [.tok (2,h.text) (litT h.text)]
 else if h.kind=3 then [nam h.text]
 else if h.kind=9 then [wd [116,114,117,101]]
 else if h.kind=10 then [wd [102,97,108,115,101]]
 else if h.kind=4 then lisPc 91 ks 93
 else if h.kind=7 then nam h.text::lisPc 40 ks 41
 else match ks with
  | []=>[]
  | (h0,t0)::r=>
   if h.kind=5 then sg h.text::wrP (decide (h0.kind=6)) t0
   else if h.kind=8 then wrP (decide (h0.kind=6)||decide (h0.kind=5)) t0++lisPc 91 r 93
   else match r with
    | []=>[]
    | (h1,t1)::_=>wrP (weakB h0 (leastS h.text)) t0++(sp::sg h.text::sp::wrP (weakB h1 (stren h.text+1)) t1)
def exP:Fo→List Xp
 | .nil=>[]
 | .cons h k r=>(h,exPc h (exP k))::exP r
def toX (l:List Xp):List Xt:=l.map fun x=>(x.1,txs x.2)
theorem txs_lis (b e:UInt8) (ks:List Xp):txs (lisPc b ks e)=lisT b (toX ks) e:=by
 unfold lisPc lisT toX
 rw [txs_cons,txs_app,txs_com,List.map_map,List.map_map]
 simp [Pc.tx,sg,txs_cons,txs_nil]
 rfl
theorem txs_ex (h:Hd) (ks:List Xp):txs (exPc h ks)=exOne h (toX ks):=by
 unfold exPc exOne
 by_cases c1:h.kind=1
 ·rw [if_pos c1,if_pos c1]; simp [txs,Pc.tx]
 rw [if_neg c1,if_neg c1]
 by_cases c2:h.kind=2
 ·rw [if_pos c2,if_pos c2]; simp [txs,Pc.tx]
 rw [if_neg c2,if_neg c2]
 by_cases c3:h.kind=3
 ·rw [if_pos c3,if_pos c3]; simp [txs,nam,Pc.tx]
 rw [if_neg c3,if_neg c3]
 by_cases c9:h.kind=9
 ·rw [if_pos c9,if_pos c9]; rfl
 rw [if_neg c9,if_neg c9]
 by_cases c10:h.kind=10
 ·rw [if_pos c10,if_pos c10]; rfl
 rw [if_neg c10,if_neg c10]
 by_cases c4:h.kind=4
 ·rw [if_pos c4,if_pos c4,txs_lis]
 rw [if_neg c4,if_neg c4]
 by_cases c7:h.kind=7
 ·rw [if_pos c7,if_pos c7,txs_cons,txs_lis]; rfl
 rw [if_neg c7,if_neg c7]
 cases ks with
 | nil=>rfl
 | cons x r=>
  obtain ⟨h0,t0⟩:=x
  show txs (if h.kind=5 then _ else _)=if h.kind=5 then _ else _
  by_cases c5:h.kind=5
  ·rw [if_pos c5,if_pos c5,txs_cons,txs_wr]; rfl
  rw [if_neg c5,if_neg c5]
  by_cases c8:h.kind=8
  ·rw [if_pos c8,if_pos c8,txs_app,txs_wr,txs_lis]; rfl
  rw [if_neg c8,if_neg c8]
  cases r with
  | nil=>rfl
  | cons y r=>
   obtain ⟨h1,t1⟩:=y
   show txs (wrP _ _++_)=_
   rw [txs_app,txs_wr,txs_cons,txs_cons,txs_cons,txs_wr]
   simp [Pc.tx,sp,sg]
theorem txs_exP (F:Fo):toX (exP F)=exT F:=by
 induction F with
 | nil=>rfl
 | cons h k r ihk ihr=>
  show (h,txs (exPc h (exP k)))::toX (exP r)=(h,exOne h (exT k))::exT r
  rw [txs_ex,ihk,ihr]
structure Np where
 hd:Hd
 ex:List Pc
 st:Nat→List Pc
def indP (d:Nat):List Pc:=[.bl (ind d)]
def lnP (ks:List Np) (d:Nat):List Pc:=(ks.map fun k=>indP d++k.st d++[.bl [10]]).flatten
def exI (ks:List Np) (i:Nat):List Pc:=match ks[i]? with | some k=>k.ex | none=>[]
def stI (ks:List Np) (i d:Nat):List Pc:=match ks[i]? with | some k=>k.st d | none=>[]
def parP (l:List (List UInt8)):List Pc:=sg [40]::(comP (l.map fun s=>[nam s])++[sg [41]])
def blkPc (ks:List Np) (d:Nat):List Pc:=sg [123]::.bl [10]::(lnP ks (d+1)++(indP d++[sg [125]]))
def stPc (h:Hd) (ks:List Np) (d:Nat):List Pc:=
 if h.kind=20 then wd [108,101,116]::sp::nam h.text::sp::sg [61]::sp::(exI ks 0++[sg [59]])
 else if h.kind=21 then nam h.text::sp::sg [61]::sp::(exI ks 0++[sg [59]])
 else if h.kind=22 then wd [105,102]::sp::(exI ks 0++(sp::(stI ks 1 d++(if ks.length=3 then sp::wd [101,108,115,101]::sp::stI ks 2 d else []))))
 else if h.kind=23 then wd [119,104,105,108,101]::sp::(exI ks 0++(sp::stI ks 1 d))
 else if h.kind=24 then wd [102,111,114]::sp::nam h.text::sp::wd [105,110]::sp::(exI ks 0++(sp::sg [46,46]::sp::(exI ks 1++(sp::stI ks 2 d))))
 else if h.kind=25 then blkPc ks d
 else if h.kind=26 then wd [102,110]::sp::nam h.text::(parP h.names++(sp::stI ks 0 d))
 else if h.kind=27 then wd [114,101,116,117,114,110]::((if ks.length=0 then [] else sp::exI ks 0)++[sg [59]])
 else if h.kind=28 then exI ks 0++[sg [59]]
 else if h.kind=29 then [wd [98,114,101,97,107],sg [59]]
 else []
def npP:Fo→List Np
 | .nil=>[]
 | .cons h k r=>⟨h,exPc h (exP k),stPc h (npP k)⟩::npP r
def toN (l:List Np):List Nt:=l.map fun x=>⟨x.hd,txs x.ex,fun d=>txs (x.st d)⟩
theorem txs_exI (ks:List Np) (i:Nat):txs (exI ks i)=ex0 (toN ks) i:=by
 unfold exI ex0 toN
 rw [List.getElem?_map]
 cases ks[i]? <;> rfl
theorem txs_stI (ks:List Np) (i d:Nat):txs (stI ks i d)=st0 (toN ks) i d:=by
 unfold stI st0 toN
 rw [List.getElem?_map]
 cases ks[i]? <;> rfl
theorem txs_ln (ks:List Np) (d:Nat):txs (lnP ks d)=lnT (toN ks) d:=by
 unfold lnP lnT toN
 induction ks with
 | nil=>rfl
 | cons k r ih=>
  rw [List.map_cons,List.flatten_cons,txs_app,ih,txs_app,txs_app]
  simp [indP,txs_cons,txs_nil,Pc.tx]
theorem toN_len (ks:List Np):(toN ks).length=ks.length:=by simp [toN]
theorem txs_st (h:Hd) (ks:List Np) (d:Nat):txs (stPc h ks d)=stOne h (toN ks) d:=by
 unfold stPc stOne
 by_cases c0:h.kind=20
 ·rw [if_pos c0,if_pos c0]; simp [txs_cons,txs_app,txs_nil,txs_exI,Pc.tx,wd,sg,nam,sp]
 rw [if_neg c0,if_neg c0]
 by_cases c1:h.kind=21
 ·rw [if_pos c1,if_pos c1]; simp [txs_cons,txs_app,txs_nil,txs_exI,Pc.tx,sg,nam,sp]
 rw [if_neg c1,if_neg c1]
 by_cases c2:h.kind=22
 ·rw [if_pos c2,if_pos c2,toN_len]
  by_cases h3:ks.length=3
  ·rw [if_pos h3,if_pos h3]; simp [txs_cons,txs_app,txs_exI,txs_stI,Pc.tx,wd,sp]
  ·rw [if_neg h3,if_neg h3]; simp [txs_cons,txs_app,txs_exI,txs_stI,Pc.tx,wd,sp]
 rw [if_neg c2,if_neg c2]
 by_cases c3:h.kind=23
 ·rw [if_pos c3,if_pos c3]; simp [txs_cons,txs_app,txs_exI,txs_stI,Pc.tx,wd,sp]
 rw [if_neg c3,if_neg c3]
 by_cases c4:h.kind=24
 ·rw [if_pos c4,if_pos c4]; simp [txs_cons,txs_app,txs_exI,txs_stI,Pc.tx,wd,sg,nam,sp]
 rw [if_neg c4,if_neg c4]
 by_cases c5:h.kind=25
 ·rw [if_pos c5,if_pos c5]; simp [blkPc,indP,txs_cons,txs_app,txs_nil,txs_ln,Pc.tx,sg]
 rw [if_neg c5,if_neg c5]
 by_cases c6:h.kind=26
 ·rw [if_pos c6,if_pos c6]
  have hj:(h.names.map fun s=>[nam s]).map txs=h.names:=by
   rw [List.map_map]
   conv=>rhs; rw [← List.map_id h.names]
   apply List.map_congr_left
   intro s _
   simp [txs,nam,Pc.tx]
  rw [txs_cons,txs_cons,txs_cons,txs_app,txs_cons,parP,txs_cons,txs_app,txs_com,hj,txs_stI]
  simp [txs_cons,txs_nil,Pc.tx,wd,sg,nam,sp]
 rw [if_neg c6,if_neg c6]
 by_cases c7:h.kind=27
 ·rw [if_pos c7,if_pos c7,toN_len]
  by_cases h3:ks.length=0
  ·rw [if_pos h3,if_pos h3]; simp [txs_cons,txs_nil,Pc.tx,wd,sg]
  ·rw [if_neg h3,if_neg h3]; simp [txs_cons,txs_app,txs_nil,txs_exI,Pc.tx,wd,sg,sp]
 rw [if_neg c7,if_neg c7]
 by_cases c8:h.kind=28
 ·rw [if_pos c8,if_pos c8]; simp [txs_cons,txs_app,txs_nil,txs_exI,Pc.tx,sg]
 rw [if_neg c8,if_neg c8]
 by_cases c9:h.kind=29
 ·rw [if_pos c9,if_pos c9]; rfl
 rw [if_neg c9,if_neg c9]
 rfl
theorem txs_npP (F:Fo):toN (npP F)=ntT F:=by
 induction F with
 | nil=>rfl
 | cons h k r ihk ihr=>
  show (⟨h,txs (exPc h (exP k)),fun d=>txs (stPc h (npP k) d)⟩:Nt)::toN (npP r)=⟨h,exOne h (exT k),stOne h (ntT k)⟩::ntT r
  rw [txs_ex,txs_exP,ihr]
  congr 2
  funext d
  rw [txs_st,ihk]
def prPc (F:Fo):List Pc:=lnP (npP F) 0
theorem txs_prPc (F:Fo):txs (prPc F)=txF F:=by unfold prPc txF; rw [txs_ln,txs_npP]

def sepK (k:Ky) (o:Option UInt8):Prop:=match o with
 | none=>True
 | some c=>(k.1=1∨k.1=3∨k.1=5→let8 c=false∧dig c=false)∧(k.1=4→c≠61)
def TxOk (k:Ky) (b:List UInt8):Prop:=
 (∃c t,b=c::t∧c.toNat≠32∧c.toNat≠9∧c.toNat≠10∧c.toNat≠35)∧∀(l:List UInt8) (p:Nat) (u:List UInt8),l.drop p=b++u→sepK k u.head?→tokP l p=.ok (⟨k.1,k.2,p⟩,p+b.length)
def hdO (l:List Pc) (o:Option UInt8):Option UInt8:=match txs l with | []=>o | c::_=>some c
def Gd:List Pc→Option UInt8→Prop
 | [],_=>True
 | .bl b::r,o=>(∀c∈b,c.toNat=32∨c.toNat=10)∧Gd r o
 | .tok k b::r,o=>TxOk k b∧sepK k (hdO r o)∧Gd r o
theorem hdO_app (a b:List Pc) (o:Option UInt8):hdO (a++b) o=hdO a (hdO b o):=by
 unfold hdO
 rw [txs_app]
 cases txs a <;> rfl
theorem Gd_app:∀(a b:List Pc) (o:Option UInt8),Gd (a++b) o↔Gd a (hdO b o)∧Gd b o:=by
 intro a
 induction a with
 | nil=>intro b o; simp [Gd]
 | cons p r ih=>
  intro b o
  cases p with
  | bl t=>simp only [List.cons_append,Gd,ih,and_assoc]
  | tok k t=>simp only [List.cons_append,Gd,ih,and_assoc,hdO_app]
theorem skip_bl:∀(b t:List UInt8),(∀c∈b,c.toNat=32∨c.toNat=10)→skipN false (b++t)=b.length+skipN false t:=by
 intro b
 induction b with
 | nil=>intro t _; simp
 | cons c b ih=>
  intro t h
  rw [List.cons_append,skip_one c _ (by have:=h c (by simp); omega),ih t (fun d hd=>h d (by simp [hd]))]
  simp only [List.length_cons]
  omega
theorem lexG:∀(ps:List Pc),Gd ps none→∀(l:List UInt8) (p n f:Nat),l.drop p=txs ps→p≤l.length→l.length - p < f→
  (∃ts,toksGo l f n (p+skipN false (l.drop p))=.ok ts∧ts.map Tk.ky=kys ps++[(0,[])])∨∃q,toksGo l f n (p+skipN false (l.drop p))=.error (q,3):=by
 intro ps
 induction ps with
 | nil=>
  intro _ l p n f hd hp hf
  have he:p=l.length:=by
   have:=congrArg List.length hd
   simp [txs_nil] at this
   omega
  subst he
  obtain ⟨f,rfl⟩:∃k,f=k+1:=⟨f - 1,by omega⟩
  rw [hd,txs_nil]
  show (∃ts,toksGo l (f+1) n (l.length+0)=_∧_)∨_
  rw [Nat.add_zero]
  by_cases hn:4096≤n
  ·exact Or.inr ⟨_,toksGo_lim l f n _ hn⟩
  ·exact Or.inl ⟨_,toksGo_end l f n hn,rfl⟩
 | cons x r ih=>
  intro hg l p n f hd hp hf
  cases x with
  | bl b=>
   obtain ⟨hb,hg⟩:=hg
   rw [txs_cons] at hd
   have h1:l.drop (p+b.length)=txs r:=by rw [← List.drop_drop,hd]; simp [Pc.tx]
   have hlen:b.length≤l.length - p:=by
    have:=congrArg List.length hd
    simp [Pc.tx] at this
    omega
   have:=ih hg l (p+b.length) n f h1 (by omega) (by omega)
   rw [h1] at this
   rw [hd]
   show (∃ts,toksGo l f n (p+skipN false (b++txs r))=.ok ts∧ts.map Tk.ky=kys (Pc.bl b::r)++[(0,[])])∨∃q,toksGo l f n (p+skipN false (b++txs r))=.error (q,3)
   rw [skip_bl b _ hb,kys_cons]
   rw [Nat.add_assoc] at this
   exact this
  | tok k b=>
   obtain ⟨⟨⟨c,t,rfl,c1,c2,c3,c4⟩,htk⟩,hs,hg⟩:=hg
   rw [txs_cons] at hd
   have hdd:l.drop p=(c::t)++txs r:=hd
   have h1:l.drop (p+(c::t).length)=txs r:=by rw [← List.drop_drop,hdd]; simp
   have hlen:(c::t).length≤l.length - p:=by
    have:=congrArg List.length hdd
    simp at this
    simp
    omega
   have hlp:p≠l.length:=by
    intro he
    simp at hlen
    omega
   obtain ⟨f,rfl⟩:∃k,f=k+1:=⟨f - 1,by omega⟩
   have hsk:p+skipN false (l.drop p)=p:=by rw [hdd,List.cons_append,skip_stop c _ c1 c2 c3 c4]; rfl
   rw [hsk]
   have hsep:sepK k (txs r).head?:=by
    have e:hdO r none=(txs r).head?:=by unfold hdO; cases txs r <;> rfl
    rwa [e] at hs
   by_cases hn:4096≤n
   ·exact Or.inr ⟨_,toksGo_lim l f n _ hn⟩
   have hstep:=toksGo_step l f n p _ _ hn hlp (htk l p (txs r) hdd hsep)
   rw [hstep]
   have hl1:1≤(c::t).length:=by simp
   rcases ih hg l (p+(c::t).length) (n+1) f h1 (by omega) (by omega) with ⟨ts,e1,e2⟩ | ⟨q,e1⟩
   ·refine Or.inl ⟨⟨k.1,k.2,p⟩::ts,by rw [e1]; rfl,?_⟩
    rw [kys_cons,List.map_cons,e2]
    rfl
   ·exact Or.inr ⟨q,by rw [e1]; rfl⟩
theorem lexP (ps:List Pc) (hg:Gd ps none):(∃ts,toksP (txs ps)=.ok ts∧ts.map Tk.ky=kys ps++[(0,[])])∨∃q,toksP (txs ps)=.error (q,3):=by
 unfold toksP
 by_cases h:16384 < (txs ps).length
 ·rw [if_pos h]; exact Or.inr ⟨_,rfl⟩
 rw [if_neg h]
 have:=lexG ps hg (txs ps) 0 0 ((txs ps).length+1) rfl (Nat.zero_le _) (by omega)
 rw [List.drop_zero,Nat.zero_add] at this
 exact this

/-! The single tokens. -/
theorem dig_of (i:Nat) (h:i < 10):dig (UInt8.ofNat (48+i))=true∧(UInt8.ofNat (48+i)).toNat=48+i:=by
 have hn:(UInt8.ofNat (48+i)).toNat=48+i:=by simp; omega
 refine ⟨?_,hn⟩
 unfold dig
 rw [hn]
 simp
 omega
theorem numR_dec:∀(u:Nat),u≤4611686018427387904→∀t:List UInt8,numR 0 (Lib.decDigits u++t)=(numR u t).map (·+(Lib.decDigits u).length):=by
 intro u
 induction u using Nat.strongRecOn with
 | _ u ih=>
  intro hu t
  rw [Lib.decDigits]
  split
  ·rename_i h
   obtain ⟨h1,h2⟩:=dig_of u h
   rw [List.singleton_append,numR,h2,if_pos h1,if_neg (by omega)]
   simp
  ·rename_i h
   obtain ⟨h1,h2⟩:=dig_of (u % 10) (by omega)
   rw [List.append_assoc,ih (u / 10) (by omega) (by omega),List.singleton_append,numR,h2,if_pos h1,if_neg (by omega),show 10*(u / 10)+(48+u % 10 - 48)=u by omega]
   cases numR u t with
   | none=>rfl
   | some m=>simp; omega
theorem dec_fold:∀(u:Nat),(Lib.decDigits u).foldl (fun n c=>10*n+(c.toNat - 48)) 0=u:=by
 intro u
 induction u using Nat.strongRecOn with
 | _ u ih=>
  rw [Lib.decDigits]
  split
  ·rename_i h
   simp only [List.foldl_cons,List.foldl_nil,(dig_of u h).2]
   omega
  ·rename_i h
   rw [List.foldl_append,ih (u / 10) (by omega)]
   simp only [List.foldl_cons,List.foldl_nil,(dig_of (u % 10) (by omega)).2]
   omega
theorem dec_head (u:Nat):∃c t,Lib.decDigits u=c::t∧dig c=true:=by
 induction u using Nat.strongRecOn with
 | _ u ih=>
  rw [Lib.decDigits]
  split
  ·rename_i h; exact ⟨_,[],rfl,(dig_of u h).1⟩
  ·rename_i h
   obtain ⟨c,t,h1,h2⟩:=ih (u / 10) (by omega)
   exact ⟨c,t++[UInt8.ofNat (48+u % 10)],by rw [h1]; rfl,h2⟩
theorem dig_cases {c:UInt8} (h:dig c=true):48≤c.toNat∧c.toNat≤57:=by unfold dig at h; simp at h; omega
theorem let_cases {c:UInt8} (h:let8 c=true):65≤c.toNat:=by unfold let8 at h; simp at h; omega
theorem dig_not_let {c:UInt8} (h:let8 c=true):dig c=false:=by
 have:=let_cases h
 cases hd:dig c with
 | false=>rfl
 | true=>have:=dig_cases hd; omega
theorem numR_stop (v:Nat) (u:List UInt8) (h:∀c,u.head?=some c→dig c=false):numR v u=some 0:=by
 cases u with
 | nil=>rfl
 | cons c t=>rw [numR,if_neg (by rw [h c rfl]; decide)]
theorem tkok_num (n:Int) (h0:0≤n) (h1:n≤4611686018427387904):TxOk (1,Lib.itoa n) (Lib.itoa n):=by
 have hi:Lib.itoa n=Lib.decDigits n.toNat:=by unfold Lib.itoa; rw [if_neg (by omega)]
 rw [hi]
 obtain ⟨c,t,hc,hd⟩:=dec_head n.toNat
 have hdc:=dig_cases hd
 refine ⟨⟨c,t,hc,by omega,by omega,by omega,by omega⟩,fun l p u hl hs=>?_⟩
 unfold tokP
 rw [hl,hc]
 simp only [List.cons_append]
 rw [if_pos hd,← List.cons_append,← hc]
 unfold numT
 have hsep:∀d,u.head?=some d→let8 d=false∧dig d=false:=fun d hdd=>by
  rw [hdd] at hs
  exact hs.1 (Or.inl rfl)
 rw [numR_dec n.toNat (by omega) u,numR_stop _ u (fun d hdd=>(hsep d hdd).2)]
 simp only [Option.map_some,Nat.zero_add]
 rw [if_neg]
 ·simp
 ·rintro ⟨h2,h3⟩
  cases u with
  | nil=>simp at h2
  | cons d u=>
   simp at h3
   rw [(hsep d rfl).1] at h3
   cases h3
theorem run_all (p:UInt8→Bool):∀(b u:List UInt8),b.all p=true→(∀c,u.head?=some c→p c=false)→runN p (b++u)=b.length:=by
 intro b
 induction b with
 | nil=>
  intro u _ hu
  cases u with
  | nil=>rfl
  | cons c t=>rw [List.nil_append,runN,if_neg (by rw [hu c rfl]; decide)]; rfl
 | cons c b ih=>
  intro u hb hu
  simp only [List.all_cons,Bool.and_eq_true] at hb
  rw [List.cons_append,runN,if_pos hb.1,ih u hb.2 hu]
  rfl
theorem tkok_word (k:Nat) (s:List UInt8) (hk:k=3∨k=5) (hr:resv s=decide (k=5)) (hc:∃c t,s=c::t∧let8 c=true) (ha:s.all (fun c=>let8 c||dig c)=true) (hl:s.length≤32):TxOk (k,s) s:=by
 obtain ⟨c,t,rfl,hlc⟩:=hc
 have:=let_cases hlc
 refine ⟨⟨c,t,rfl,by omega,by omega,by omega,by omega⟩,fun l p u hd hs=>?_⟩
 unfold tokP
 rw [hd]
 simp only [List.cons_append]
 rw [if_neg (by rw [dig_not_let hlc]; decide),if_pos hlc,← List.cons_append]
 have hsep:∀d,u.head?=some d→(let8 d||dig d)=false:=fun d hdd=>by
  rw [hdd] at hs
  have:=hs.1 (Or.inr hk)
  rw [this.1,this.2]; rfl
 have hw:wordN ((c::t)++u)=(c::t).length:=run_all _ _ _ ha hsep
 unfold nameT
 rw [hw,if_neg (by omega),List.take_left,hr]
 rcases hk with rfl | rfl <;> simp
theorem tkok_name {s:List UInt8} (h:isNameP s=true):TxOk (3,s) s:=by
 unfold isNameP at h
 cases s with
 | nil=>simp at h
 | cons c t=>
  simp only [Bool.and_eq_true,Bool.not_eq_true',decide_eq_true_eq] at h
  obtain ⟨⟨⟨h1,h2⟩,h3⟩,h4⟩:=h
  refine tkok_word 3 _ (Or.inl rfl) (by rw [h4]; rfl) ⟨c,t,rfl,h1⟩ ?_ h3
  simp only [List.all_cons,Bool.and_eq_true]
  exact ⟨by rw [h1]; rfl,h2⟩
theorem tkok_lit {s:List UInt8} (h:litOk s=true):TxOk (2,s) (litT s):=by
 unfold litOk litP at h
 unfold litT litP
 by_cases hb:s.any badC=true
 ·rw [if_pos hb] at h; cases h
 rw [if_neg hb] at h ⊢
 by_cases hl:256 < s.length
 ·rw [if_pos hl] at h; cases h
 rw [if_neg hl] at h ⊢
 show TxOk (2,s) ([34]++escL s++[34])
 refine ⟨⟨34,escL s++[34],rfl,by decide,by decide,by decide,by decide⟩,fun l p u hd _=>?_⟩
 unfold tokP
 rw [hd]
 simp only [List.cons_append,List.nil_append]
 rw [if_neg (by decide),if_neg (by decide),if_pos (by decide)]
 unfold quoT
 rw [show escL s++[34]++u=escL s++34::u by simp,quoR_esc s u (by simpa using hb)]
 simp only
 rw [if_neg hl]
 simp
 omega
def sgs:List (List UInt8):=twos++ones.map fun c=>[c]
theorem ones_two:∀c∈ones,∀d:UInt8,d≠61→[c,d]∉twos:=by
 intro c hc d hd hm
 simp only [ones,bytes,List.map_cons,List.map_nil] at hc
 simp only [twos,bytes,List.map_cons,List.map_nil,List.mem_cons,List.not_mem_nil,or_false,List.cons.injEq,and_true] at hm
 rcases hm with ⟨rfl,rfl⟩ | ⟨rfl,rfl⟩ | ⟨rfl,rfl⟩ | ⟨rfl,rfl⟩ | ⟨rfl,rfl⟩ | ⟨rfl,rfl⟩ | ⟨rfl,rfl⟩
 all_goals first
  | exact hd rfl
  | revert hc; decide
theorem sgs_head:∀s∈sgs,∃c t,s=c::t∧dig c=false∧let8 c=false∧c.toNat≠34∧c.toNat≠32∧c.toNat≠9∧c.toNat≠10∧c.toNat≠35:=by
 have h:(sgs.all fun s=>match s with | []=>false | c::_=>!dig c&&!let8 c&&decide (c.toNat≠34∧c.toNat≠32∧c.toNat≠9∧c.toNat≠10∧c.toNat≠35))=true:=by decide +kernel
 intro s hs
 have:=List.all_eq_true.1 h s hs
 cases s with
 | nil=>cases this
 | cons c t=>
  simp only [Bool.and_eq_true,Bool.not_eq_true',decide_eq_true_eq] at this
  exact ⟨c,t,rfl,this.1.1,this.1.2,this.2⟩
theorem tkok_sg {s:List UInt8} (h:s∈sgs):TxOk (4,s) s:=by
 obtain ⟨c,t,rfl,h1,h2,h3,h4⟩:=sgs_head s h
 refine ⟨⟨c,t,rfl,h4⟩,fun l p u hd hs=>?_⟩
 have ho:opR ((c::t)++u)=(c::t).length:=by
  rcases List.mem_append.1 h with hm | hm
  ·have hl:=twos_len _ hm
   rw [opR_two (by rw [← hl,List.take_left]; exact hm),hl]
  ·obtain ⟨d,hd1,hd2⟩:=List.mem_map.1 hm
   injection hd2 with e1 e2
   subst e1 e2
   rw [List.cons_append,List.nil_append]
   cases u with
   | nil=>rw [opR_one (by simp only [List.take]; intro hx; have:=twos_len _ hx; simp at this) hd1]; rfl
   | cons e u=>rw [opR_one (c:=d) (t:=e::u) (ones_two d hd1 e (hs.2 rfl)) hd1]; rfl
 unfold tokP
 rw [hd]
 simp only [List.cons_append]
 rw [if_neg (by rw [h1]; decide),if_neg (by rw [h2]; decide),if_neg h3,← List.cons_append]
 unfold opT
 rw [ho,if_neg (by simp),List.take_left]

def Sf (o:Option UInt8):Prop:=∀c,o=some c→let8 c=false∧dig c=false∧c≠61
theorem sf_c (c:UInt8) (h:(!let8 c&&!dig c&&decide (c≠61))=true):Sf (some c):=by
 intro d hd
 cases hd
 simp only [Bool.and_eq_true,Bool.not_eq_true',decide_eq_true_eq] at h
 exact ⟨h.1.1,h.1.2,h.2⟩
theorem Sf.sep {o:Option UInt8} (h:Sf o) (k:Ky):sepK k o:=by
 cases o with
 | none=>trivial
 | some c=>exact ⟨fun _=>⟨(h c rfl).1,(h c rfl).2.1⟩,fun _=>(h c rfl).2.2⟩
theorem sep4 {o:Option UInt8} (s:List UInt8) (h:∀c,o=some c→c≠61):sepK (4,s) o:=by
 cases o with
 | none=>trivial
 | some c=>exact ⟨fun h=>by simp at h,fun _=>h c rfl⟩
theorem Sf.n61 {o:Option UInt8} (h:Sf o):∀c,o=some c→c≠61:=fun c hc=>(h c hc).2.2
theorem gd_sg {s:List UInt8} (hs:s∈sgs) {r:List Pc} {o:Option UInt8} (h:∀c,hdO r o=some c→c≠61) (hr:Gd r o):Gd (sg s::r) o:=⟨tkok_sg hs,sep4 s h,hr⟩
theorem gd_nam {s:List UInt8} (hs:isNameP s=true) {r:List Pc} {o:Option UInt8} (h:Sf (hdO r o)) (hr:Gd r o):Gd (nam s::r) o:=⟨tkok_name hs,h.sep _,hr⟩
theorem words_ok:∀s∈words,(∃c t,s=c::t∧let8 c=true)∧s.all (fun c=>let8 c||dig c)=true∧s.length≤32:=by
 have h:(words.all fun s=>(match s with | []=>false | c::_=>let8 c)&&s.all (fun c=>let8 c||dig c)&&decide (s.length≤32))=true:=by decide +kernel
 intro s hs
 have:=List.all_eq_true.1 h s hs
 simp only [Bool.and_eq_true,decide_eq_true_eq] at this
 refine ⟨?_,this.1.2,this.2⟩
 cases s with
 | nil=>exact absurd this.1.1 (by decide)
 | cons c t=>exact ⟨c,t,rfl,this.1.1⟩
theorem gd_wd {s:List UInt8} (hs:s∈words) {r:List Pc} {o:Option UInt8} (h:Sf (hdO r o)) (hr:Gd r o):Gd (wd s::r) o:=by
 obtain ⟨h1,h2,h3⟩:=words_ok s hs
 exact ⟨tkok_word 5 s (Or.inr rfl) (by unfold resv; simp [hs]) h1 h2 h3,h.sep _,hr⟩
theorem gd_sp {r:List Pc} {o:Option UInt8} (hr:Gd r o):Gd (sp::r) o:=⟨fun c hc=>by simp at hc; subst hc; exact Or.inl rfl,hr⟩
theorem gd_nl {r:List Pc} {o:Option UInt8} (hr:Gd r o):Gd (.bl [10]::r) o:=⟨fun c hc=>by simp at hc; subst hc; exact Or.inr rfl,hr⟩
theorem gd_ind (d:Nat) {r:List Pc} {o:Option UInt8} (hr:Gd r o):Gd (indP d++r) o:=⟨fun c hc=>by
 unfold ind at hc
 rw [List.mem_flatten] at hc
 obtain ⟨l,h1,h2⟩:=hc
 rw [List.mem_replicate] at h1
 rw [h1.2] at h2
 simp at h2
 subst h2
 exact Or.inl rfl,hr⟩
theorem Sf.head {l:List Pc} {c:UInt8} (h:∀o,hdO l o=some c) (hc:Sf (some c)) (o:Option UInt8):Sf (hdO l o):=by rw [h]; exact hc

def GE (l:List Pc):Prop:=(∃c,c≠61∧∀o,hdO l o=some c)∧∀o,Sf o→Gd l o
theorem GE.n61 {l:List Pc} (h:GE l) (r:List Pc) (o:Option UInt8):∀c,hdO (l++r) o=some c→c≠61:=by
 obtain ⟨⟨d,h1,h2⟩,-⟩:=h
 intro c hc
 rw [hdO_app,h2] at hc
 cases hc
 exact h1
theorem GE.app {l:List Pc} (h:GE l) {r:List Pc} {o:Option UInt8} (hs:Sf (hdO r o)) (hr:Gd r o):Gd (l++r) o:=(Gd_app _ _ _).2 ⟨h.2 _ hs,hr⟩
theorem ge_wr (b:Bool) {l:List Pc} (h:GE l):GE (wrP b l):=by
 cases b with
 | false=>exact h
 | true=>
  refine ⟨⟨40,by decide,fun _=>rfl⟩,fun o ho=>?_⟩
  exact gd_sg (by decide +kernel) (h.n61 _ _) (h.app (sf_c 41 (by decide)) (gd_sg (by decide +kernel) ho.n61 trivial))
theorem sf_comT (r:List (List Pc)) {o:Option UInt8} (ho:Sf o):Sf (hdO (comT r) o):=by
 cases r with
 | nil=>exact ho
 | cons y r=>exact sf_c 44 (by decide)
theorem gd_comT:∀(r:List (List Pc)),(∀x∈r,GE x)→∀o,Sf o→Gd (comT r) o:=by
 intro r
 induction r with
 | nil=>intro _ o _; trivial
 | cons y r ih=>
  intro h o ho
  show Gd (sg [44]::sp::(y++comT r)) o
  refine gd_sg (by decide +kernel) (fun c hc=>?_) (gd_sp ((h y (by simp)).app (sf_comT r ho) (ih (fun x hx=>h x (by simp [hx])) o ho)))
  cases hc
  decide
theorem ge_com (b e:UInt8) (hb:[b]∈sgs) (he:[e]∈sgs) (hb2:b≠61) (he2:(!let8 e&&!dig e&&decide (e≠61))=true) (ls:List (List Pc)) (h:∀x∈ls,GE x):GE (sg [b]::(comP ls++[sg [e]])):=by
 refine ⟨⟨b,hb2,fun _=>rfl⟩,fun o ho=>?_⟩
 have hend:Gd [sg [e]] o:=gd_sg he ho.n61 trivial
 have hse:Sf (hdO [sg [e]] o):=sf_c e he2
 cases ls with
 | nil=>exact gd_sg hb (fun c hc=>by cases hc; exact (sf_c e he2 _ rfl).2.2) hend
 | cons x r=>
  have hx:=h x (by simp)
  have hr:∀y∈r,GE y:=fun y hy=>h y (by simp [hy])
  show Gd (sg [b]::(x++comT r++[sg [e]])) o
  rw [List.append_assoc]
  refine gd_sg hb (hx.n61 _ _) (hx.app ?_ ((Gd_app _ _ _).2 ⟨gd_comT r hr _ hse,hend⟩))
  rw [hdO_app]
  exact sf_comT r hse
theorem ge_lis {b e:UInt8} (hb:[b]∈sgs) (he:[e]∈sgs) (hb2:b≠61) (he2:(!let8 e&&!dig e&&decide (e≠61))=true) (ks:List Xp) (h:∀x∈ks,GE x.2):GE (lisPc b ks e):=
 ge_com b e hb he hb2 he2 _ fun x hx=>by
  obtain ⟨y,h1,rfl⟩:=List.mem_map.1 hx
  exact h y h1
theorem GE.cons {l:List Pc} (h:GE l) {p:Pc} {c:UInt8} (hc:c≠61) (hh:∀r o,hdO (p::r) o=some c) (hg:∀o,(∀d,hdO l o=some d→d≠61)→Sf (hdO l o)∨True→Gd l o→Gd (p::l) o):GE (p::l):=
 ⟨⟨c,hc,hh l⟩,fun o ho=>hg o (by have:=h.n61 [] o; rw [List.append_nil] at this; exact this) (Or.inr trivial) (h.2 o ho)⟩
theorem exP_len (F:Fo):(exP F).length=F.len:=by
 induction F with
 | nil=>rfl
 | cons h k r _ ih=>simp only [exP,List.length_cons,ih,Fo.len]
theorem name_head {s:List UInt8} (h:isNameP s=true):∃c t,s=c::t∧c≠61:=by
 unfold isNameP at h
 cases s with
 | nil=>simp at h
 | cons c t=>
  simp only [Bool.and_eq_true] at h
  refine ⟨c,t,rfl,?_⟩
  rintro rfl
  exact absurd h.1.1.1 (by decide)
theorem stren_sgs {t:List UInt8} (h:0 < stren t):t∈sgs:=by
 unfold stren at h
 repeat' first
  | (split at h)
  | (rename_i hc; first | (subst hc; decide +kernel) | (rcases hc with rfl | rfl <;> decide +kernel) | (rcases hc with rfl | rfl | rfl <;> decide +kernel) | (rcases hc with rfl | rfl | rfl | rfl | rfl | rfl <;> decide +kernel))
  | omega
theorem ge_exOne (h:Hd) (ks:List Xp) (hh:exH h ks.length=true) (hk:∀x∈ks,GE x.2):GE (exPc h ks):=by
 unfold exH at hh
 rw [Bool.and_eq_true] at hh
 obtain ⟨-,hh⟩:=hh
 unfold exPc
 by_cases c1:h.kind=1
 ·rw [if_pos c1] at hh ⊢
  simp only [Bool.and_eq_true,decide_eq_true_eq] at hh
  have ht:=tkok_num h.num hh.1.1.1 hh.1.1.2
  obtain ⟨c,t,hc,hd⟩:=dec_head h.num.toNat
  have hi:Lib.itoa h.num=c::t:=by unfold Lib.itoa; rw [if_neg (by omega),hc]
  refine ⟨⟨c,by rintro rfl; exact absurd hd (by decide),fun o=>by unfold hdO; rw [txs_cons]; simp only [Pc.tx]; rw [hi]; rfl⟩,fun o ho=>⟨ht,ho.sep _,trivial⟩⟩
 rw [if_neg c1] at hh ⊢
 by_cases c2:h.kind=2
 ·rw [if_pos c2] at hh ⊢
  simp only [Bool.and_eq_true] at hh
  have ht:=tkok_lit hh.1
  have hl:∃t,litT h.text=34::t:=by
   have:=hh.1
   unfold litOk at this
   unfold litT
   unfold litP at this ⊢
   by_cases hb:h.text.any badC=true
   ·rw [if_pos hb] at this; cases this
   rw [if_neg hb] at this ⊢
   by_cases hl:256 < h.text.length
   ·rw [if_pos hl] at this; cases this
   rw [if_neg hl]
   exact ⟨_,rfl⟩
  obtain ⟨t,hl⟩:=hl
  exact ⟨⟨34,by decide,fun o=>by unfold hdO; rw [txs_cons]; simp only [Pc.tx]; rw [hl]; rfl⟩,fun o ho=>⟨ht,ho.sep _,trivial⟩⟩
 rw [if_neg c2] at hh ⊢
 have hname:isNameP h.text=true→∃c,c≠61∧∀r o,hdO (nam h.text::r) o=some c:=fun hn=>by
  obtain ⟨c,t,e1,e2⟩:=name_head hn
  exact ⟨c,e2,fun r o=>by unfold hdO; rw [txs_cons]; simp only [nam,Pc.tx]; rw [e1]; rfl⟩
 by_cases c3:h.kind=3
 ·rw [if_pos c3] at hh ⊢
  simp only [Bool.and_eq_true] at hh
  obtain ⟨c,e1,e2⟩:=hname hh.1
  exact ⟨⟨c,e1,e2 []⟩,fun o ho=>gd_nam hh.1 ho trivial⟩
 rw [if_neg c3] at hh ⊢
 by_cases c9:h.kind=9
 ·rw [if_pos c9]
  exact ⟨⟨116,by decide,fun _=>rfl⟩,fun o ho=>gd_wd (by decide +kernel) ho trivial⟩
 rw [if_neg c9]
 by_cases c10:h.kind=10
 ·rw [if_pos c10]
  exact ⟨⟨102,by decide,fun _=>rfl⟩,fun o ho=>gd_wd (by decide +kernel) ho trivial⟩
 rw [if_neg c10]
 by_cases c4:h.kind=4
 ·rw [if_pos c4]
  exact ge_lis (by decide +kernel) (by decide +kernel) (by decide) (by decide) ks hk
 rw [if_neg c4] at hh ⊢
 have hs1:h.kind=5→h.text∈sgs∧(∃c,c≠61∧∀r o,hdO (sg h.text::r) o=some c)∧ks.length=1:=fun c5=>by
  rw [if_pos c5] at hh
  simp only [Bool.and_eq_true,Bool.or_eq_true,decide_eq_true_eq] at hh
  obtain ⟨ht | ht,hl⟩:=hh
  ·rw [ht]; exact ⟨by decide +kernel,⟨45,by decide,fun _ _=>rfl⟩,hl⟩
  ·rw [ht]; exact ⟨by decide +kernel,⟨33,by decide,fun _ _=>rfl⟩,hl⟩
 by_cases c7:h.kind=7
 ·rw [if_pos c7]
  have hn:isNameP h.text=true:=by
   rw [if_neg (by omega),if_neg (by omega),if_pos c7] at hh
   exact hh
  obtain ⟨c,e1,e2⟩:=hname hn
  have hl:=ge_lis (b:=40) (e:=41) (by decide +kernel) (by decide +kernel) (by decide) (by decide) ks hk
  exact ⟨⟨c,e1,e2 _⟩,fun o ho=>gd_nam hn (sf_c 40 (by decide)) (hl.2 o ho)⟩
 rw [if_neg c7]
 cases ks with
 | nil=>
  exfalso
  by_cases c5:h.kind=5
  ·have:=(hs1 c5).2.2; simp at this
  rw [if_neg c5] at hh
  by_cases c6:h.kind=6
  ·rw [if_pos c6] at hh; simp at hh
  rw [if_neg c6,if_neg c7] at hh
  by_cases c8:h.kind=8
  ·rw [if_pos c8] at hh; simp at hh
  rw [if_neg c8] at hh
  simp [c9,c10] at hh
 | cons x r=>
  obtain ⟨h0,t0⟩:=x
  have hx:GE t0:=hk (h0,t0) (by simp)
  show GE (if h.kind=5 then _ else _)
  by_cases c5:h.kind=5
  ·rw [if_pos c5]
   obtain ⟨e1,⟨c,e2,e3⟩,-⟩:=hs1 c5
   have hw:=ge_wr (decide (h0.kind=6)) hx
   refine ⟨⟨c,e2,e3 _⟩,fun o ho=>gd_sg e1 ?_ (hw.2 o ho)⟩
   have:=hw.n61 [] o
   rwa [List.append_nil] at this
  rw [if_neg c5] at hh ⊢
  by_cases c8:h.kind=8
  ·rw [if_pos c8]
   have hw:=ge_wr (decide (h0.kind=6)||decide (h0.kind=5)) hx
   have hl:=ge_lis (b:=91) (e:=93) (by decide +kernel) (by decide +kernel) (by decide) (by decide) r (fun y hy=>hk y (by simp [hy]))
   obtain ⟨⟨c,e1,e2⟩,-⟩:=id hw
   exact ⟨⟨c,e1,fun o=>by rw [hdO_app,e2]⟩,fun o ho=>hw.app (sf_c 91 (by decide)) (hl.2 o ho)⟩
  rw [if_neg c8] at hh ⊢
  have c6:h.kind=6:=by
   by_cases c6:h.kind=6
   ·exact c6
   ·rw [if_neg c6,if_neg c7] at hh
    simp [c9,c10] at hh
  rw [if_pos c6] at hh
  simp only [Bool.and_eq_true,decide_eq_true_eq] at hh
  cases r with
  | nil=>simp at hh
  | cons y r=>
   obtain ⟨h1,t1⟩:=y
   have hy:GE t1:=hk (h1,t1) (by simp)
   show GE (wrP _ _++_)
   have hw:=ge_wr (weakB h0 (leastS h.text)) hx
   have hw1:=ge_wr (weakB h1 (stren h.text+1)) hy
   obtain ⟨⟨c,e1,e2⟩,-⟩:=id hw
   refine ⟨⟨c,e1,fun o=>by rw [hdO_app,e2]⟩,fun o ho=>hw.app (sf_c 32 (by decide)) (gd_sp (gd_sg (stren_sgs hh.1) (fun d hd=>?_) (gd_sp (hw1.2 o ho))))⟩
   cases hd
   decide
theorem ge_exP:∀(F:Fo),rt .ex F=true→∀x∈exP F,GE x.2:=by
 intro F
 induction F with
 | nil=>intro _ x hx; simp [exP] at hx
 | cons h k r ihk ihr=>
  intro hr x hx
  simp only [rt,Bool.and_eq_true] at hr
  simp only [exP,List.mem_cons] at hx
  rcases hx with rfl | hx
  ·exact ge_exOne h (exP k) (by rw [exP_len]; exact hr.1.1) (ihk hr.1.2)
  ·exact ihr hr.2 x hx
end Go.Proofs.YtbaidkefobhipaaGreatDoor
