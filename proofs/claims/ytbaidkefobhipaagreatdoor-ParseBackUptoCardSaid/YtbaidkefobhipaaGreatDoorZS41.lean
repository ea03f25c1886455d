/-
  Plain law: the text of a right program is cut into the tokens of its pieces.
  Plain law: the first token of an expression, and which tokens it has not.
  Plain law: the tokens of a right expression are read as the same expression, or the depth is too great.
-/
import Derived.Test.YtbaidkefobhipaaGreatDoorZS40
namespace Go.Proofs.YtbaidkefobhipaaGreatDoor

theorem rt_ex1 {t:List Ro} {k:Fo} (h:rt (.sq (.ex::t)) k=true):∃h0 k0 r,k=.cons h0 k0 r∧exH h0 k0.len=true∧rt .ex k0=true∧rt (.sq t) r=true:=by
 cases k with
 | nil=>simp [rt] at h
 | cons h0 k0 r=>simp only [rt,Bool.and_eq_true] at h; exact ⟨h0,k0,r,rfl,h.1.1,h.1.2,h.2⟩
theorem rt_bl1 {t:List Ro} {k:Fo} (h:rt (.sq (.bl::t)) k=true):∃h0 k0 r,k=.cons h0 k0 r∧h0.kind=25∧stH h0=true∧rt (kidM h0 k0.len) k0=true∧rt (.sq t) r=true:=by
 cases k with
 | nil=>simp [rt] at h
 | cons h0 k0 r=>simp only [rt,Bool.and_eq_true,decide_eq_true_eq] at h; exact ⟨h0,k0,r,rfl,h.1.1.1,h.1.1.2,h.1.2,h.2⟩
theorem rt_bi1 {t:List Ro} {k:Fo} (h:rt (.sq (.bi::t)) k=true):∃h0 k0 r,k=.cons h0 k0 r∧(h0.kind=25∨h0.kind=22)∧stH h0=true∧rt (kidM h0 k0.len) k0=true∧rt (.sq t) r=true:=by
 cases k with
 | nil=>simp [rt] at h
 | cons h0 k0 r=>simp only [rt,Bool.and_eq_true,Bool.or_eq_true,decide_eq_true_eq] at h; exact ⟨h0,k0,r,rfl,h.1.1.1,h.1.1.2,h.1.2,h.2⟩
theorem rt_nil1 {k:Fo} (h:rt (.sq []) k=true):k=.nil:=by
 cases k with
 | nil=>rfl
 | cons h0 k0 r=>simp [rt] at h
theorem ge_nd {h:Hd} {k:Fo} (hh:exH h k.len=true) (hk:rt .ex k=true):GE (exPc h (exP k)):=ge_exOne h (exP k) (by rw [exP_len]; exact hh) (ge_exP k hk)
def GS (l:List Pc):Prop:=∀o,Sf o→Gd l o
theorem GS.app {l:List Pc} (h:GS l) {r:List Pc} {o:Option UInt8} (hs:Sf (hdO r o)) (hr:Gd r o):Gd (l++r) o:=(Gd_app _ _ _).2 ⟨h _ hs,hr⟩
theorem sf32:Sf (some 32):=sf_c 32 (by decide)
theorem sf59:Sf (some 59):=sf_c 59 (by decide)
theorem gd_semi {o:Option UInt8} (ho:Sf o):Gd [sg [59]] o:=gd_sg (by decide +kernel) ho.n61 trivial
theorem n61_sp {r:List Pc} {o:Option UInt8}:∀c,hdO (sp::r) o=some c→c≠61:=fun c hc=>by cases hc; decide
theorem gs_ln (d:Nat):∀(F:Fo),(∀x∈npP F,GS (x.st d))→∀o,Gd (lnP (npP F) d) o:=by
 intro F
 induction F with
 | nil=>intro _ o; trivial
 | cons h k r _ ih=>
  intro hx o
  show Gd ((indP d++stPc h (npP k) d++[.bl [10]])++lnP (npP r) d) o
  rw [List.append_assoc,List.append_assoc]
  have h1:GS (stPc h (npP k) d):=hx ⟨h,exPc h (exP k),stPc h (npP k)⟩ (by simp [npP])
  exact gd_ind d (h1.app (sf_c 10 (by decide)) (gd_nl (ih (fun x hx2=>hx x (by simp [npP,hx2])) o)))
theorem ge_par (l:List (List UInt8)) (h:l.all isNameP=true):GE (parP l):=
 ge_com 40 41 (by decide +kernel) (by decide +kernel) (by decide) (by decide) _ fun x hx=>by
  obtain ⟨s,h1,rfl⟩:=List.mem_map.1 hx
  have hn:=List.all_eq_true.1 h s h1
  obtain ⟨c,t,e1,e2⟩:=name_head hn
  exact ⟨⟨c,e2,fun o=>by unfold hdO; rw [txs_cons]; simp only [nam,Pc.tx]; rw [e1]; rfl⟩,fun o ho=>gd_nam hn ho trivial⟩
theorem gs_all:∀(N:Nat) (h:Hd) (k:Fo),k.size < N→stH h=true→rt (kidM h k.len) k=true→∀d,GS (stPc h (npP k) d):=by
 intro N
 induction N with
 | zero=>intro h k hN; omega
 | succ N ih=>
  intro h k hN hh hk d o ho
  have hh2:=hh
  unfold stH at hh
  simp only [Bool.and_eq_true,decide_eq_true_eq] at hh
  obtain ⟨⟨⟨⟨hkind,-⟩,-⟩,htx⟩,hnm⟩:=hh
  unfold stPc
  unfold kidM at hk
  by_cases c0:h.kind=20
  ·rw [if_pos c0]
   rw [if_pos (Or.inl c0)] at hk
   rw [if_pos (Or.inl c0)] at htx
   obtain ⟨h0,k0,r,rfl,e1,e2,e3⟩:=rt_ex1 hk
   have hg:=ge_nd e1 e2
   exact gd_wd (by decide +kernel) sf32 (gd_sp (gd_nam htx sf32 (gd_sp (gd_sg (by decide +kernel) n61_sp (gd_sp (hg.app sf59 (gd_semi ho)))))))
  rw [if_neg c0]
  by_cases c1:h.kind=21
  ·rw [if_pos c1]
   rw [if_pos (Or.inr (Or.inl c1))] at hk
   rw [if_pos (Or.inr (Or.inl c1))] at htx
   obtain ⟨h0,k0,r,rfl,e1,e2,e3⟩:=rt_ex1 hk
   have hg:=ge_nd e1 e2
   exact gd_nam htx sf32 (gd_sp (gd_sg (by decide +kernel) n61_sp (gd_sp (hg.app sf59 (gd_semi ho)))))
  rw [if_neg c1]
  by_cases c8:h.kind=28
  ·rw [if_pos (Or.inr (Or.inr c8))] at hk
   rw [if_neg (by omega),if_neg (by omega),if_neg (by omega),if_neg (by omega),if_neg (by omega),if_neg (by omega),if_pos c8]
   obtain ⟨h0,k0,r,rfl,e1,e2,e3⟩:=rt_ex1 hk
   exact (ge_nd e1 e2).app sf59 (gd_semi ho)
  rw [if_neg (by omega)] at hk
  by_cases c2:h.kind=22
  ·rw [if_pos c2] at hk ⊢
   by_cases h3:k.len=3
   ·rw [if_pos h3] at hk
    obtain ⟨h0,k0,r,rfl,e1,e2,e3⟩:=rt_ex1 hk
    obtain ⟨h1,k1,r1,rfl,f0,f1,f2,f3⟩:=rt_bl1 e3
    obtain ⟨h2,k2,r2,rfl,g0,g1,g2,g3⟩:=rt_bi1 f3
    obtain rfl:=rt_nil1 g3
    simp only [Fo.size] at hN
    have i1:=ih h1 k1 (by omega) f1 f2 d
    have i2:=ih h2 k2 (by omega) g1 g2 d
    have hg:=ge_nd e1 e2
    exact gd_wd (by decide +kernel) sf32 (gd_sp (hg.app sf32 (gd_sp (i1.app sf32 (gd_sp (gd_wd (by decide +kernel) sf32 (gd_sp (i2 o ho))))))))
   ·rw [if_neg h3] at hk
    obtain ⟨h0,k0,r,rfl,e1,e2,e3⟩:=rt_ex1 hk
    obtain ⟨h1,k1,r1,rfl,f0,f1,f2,f3⟩:=rt_bl1 e3
    obtain rfl:=rt_nil1 f3
    simp only [Fo.size] at hN
    have i1:=ih h1 k1 (by omega) f1 f2 d
    have hg:=ge_nd e1 e2
    exact gd_wd (by decide +kernel) sf32 (gd_sp (hg.app sf32 (gd_sp (i1.app (r:=[]) ho trivial))))
  rw [if_neg c2] at hk ⊢
  by_cases c3:h.kind=23
  ·rw [if_pos c3] at hk ⊢
   obtain ⟨h0,k0,r,rfl,e1,e2,e3⟩:=rt_ex1 hk
   obtain ⟨h1,k1,r1,rfl,f0,f1,f2,f3⟩:=rt_bl1 e3
   obtain rfl:=rt_nil1 f3
   simp only [Fo.size] at hN
   have i1:=ih h1 k1 (by omega) f1 f2 d
   have hg:=ge_nd e1 e2
   exact gd_wd (by decide +kernel) sf32 (gd_sp (hg.app sf32 (gd_sp (i1 o ho))))
  rw [if_neg c3] at hk ⊢
  by_cases c4:h.kind=24
  ·rw [if_pos c4] at hk ⊢
   rw [if_pos (Or.inr (Or.inr (Or.inl c4)))] at htx
   obtain ⟨h0,k0,r,rfl,e1,e2,e3⟩:=rt_ex1 hk
   obtain ⟨h1,k1,r1,rfl,f1,f2,f3⟩:=rt_ex1 e3
   obtain ⟨h2,k2,r2,rfl,g0,g1,g2,g3⟩:=rt_bl1 f3
   obtain rfl:=rt_nil1 g3
   simp only [Fo.size] at hN
   have i2:=ih h2 k2 (by omega) g1 g2 d
   have hg:=ge_nd e1 e2
   have hg1:=ge_nd f1 f2
   exact gd_wd (by decide +kernel) sf32 (gd_sp (gd_nam htx sf32 (gd_sp (gd_wd (by decide +kernel) sf32 (gd_sp (hg.app sf32 (gd_sp (gd_sg (by decide +kernel) n61_sp (gd_sp (hg1.app sf32 (gd_sp (i2 o ho))))))))))))
  rw [if_neg c4] at hk ⊢
  by_cases c5:h.kind=25
  ·rw [if_pos c5] at hk ⊢
   refine gd_sg (by decide +kernel) (fun c hc=>by cases hc; decide) (gd_nl ?_)
   refine (Gd_app _ _ _).2 ⟨gs_ln (d+1) k ?_ _,gd_ind d (gd_sg (by decide +kernel) ho.n61 trivial)⟩
   have key:∀F:Fo,F.size < N+1→rt .st F=true→∀x∈npP F,GS (x.st (d+1)):=by
    intro F
    induction F with
    | nil=>intro _ _ x hx; simp [npP] at hx
    | cons h0 k0 r _ ihr=>
     intro hs hr x hx
     simp only [rt,Bool.and_eq_true] at hr
     simp only [Fo.size] at hs
     simp only [npP,List.mem_cons] at hx
     rcases hx with rfl | hx
     ·exact ih h0 k0 (by omega) hr.1.1 hr.1.2 (d+1)
     ·exact ihr (by omega) hr.2 x hx
   exact key k hN hk
  rw [if_neg c5] at hk ⊢
  by_cases c6:h.kind=26
  ·rw [if_pos c6] at hk ⊢
   rw [if_pos (Or.inr (Or.inr (Or.inr c6)))] at htx
   obtain ⟨h1,k1,r1,rfl,f0,f1,f2,f3⟩:=rt_bl1 hk
   obtain rfl:=rt_nil1 f3
   simp only [Fo.size] at hN
   have i1:=ih h1 k1 (by omega) f1 f2 d
   exact gd_wd (by decide +kernel) sf32 (gd_sp (gd_nam htx (sf_c 40 (by decide)) ((ge_par h.names hnm).app sf32 (gd_sp (i1 o ho)))))
  rw [if_neg c6] at hk ⊢
  by_cases c7:h.kind=27
  ·rw [if_pos c7] at hk ⊢
   by_cases h3:k.len=0
   ·rw [if_pos h3] at hk
    obtain rfl:=rt_nil1 hk
    exact gd_wd (by decide +kernel) sf59 (gd_semi ho)
   ·rw [if_neg h3] at hk
    obtain ⟨h0,k0,r,rfl,e1,e2,e3⟩:=rt_ex1 hk
    exact gd_wd (by decide +kernel) sf32 (gd_sp ((ge_nd e1 e2).app sf59 (gd_semi ho)))
  rw [if_neg c7,if_neg c8,if_pos (by omega)]
  exact gd_wd (by decide +kernel) sf59 (gd_semi ho)
theorem gs_prog (F:Fo) (h:rt .st F=true):Gd (prPc F) none:=by
 refine gs_ln 0 F ?_ none
 induction F with
 | nil=>intro x hx; simp [npP] at hx
 | cons h0 k0 r _ ih=>
  intro x hx
  simp only [rt,Bool.and_eq_true] at h
  simp only [npP,List.mem_cons] at hx
  rcases hx with rfl | hx
  ·exact gs_all _ h0 k0 (Nat.lt_succ_self _) h.1.1 h.1.2 0
  ·exact ih h.2 x hx
theorem lex_prog (F:Fo) (h:rt .st F=true):(∃ts,toksP (txF F)=.ok ts∧ts.map Tk.ky=kys (prPc F)++[(0,[])])∨∃q,toksP (txF F)=.error (q,3):=by
 have:=lexP (prPc F) (gs_prog F h)
 rwa [txs_prPc] at this

def okH (k:Ky):Bool:=decide (k.1=1)||decide (k.1=2)||decide (k.1=3)||decide (k∈([(5,[116,114,117,101]),(5,[102,97,108,115,101]),(4,[91]),(4,[40]),(4,[45]),(4,[33])]:List Ky))
def KE (l:List Pc):Prop:=(∃k r,kys l=k::r∧okH k=true)∧∀k∈kys l,k≠(4,[61])
theorem kys_sg (s:List UInt8) (l:List Pc):kys (sg s::l)=(4,s)::kys l:=rfl
theorem kys_wd (s:List UInt8) (l:List Pc):kys (wd s::l)=(5,s)::kys l:=rfl
theorem kys_nam (s:List UInt8) (l:List Pc):kys (nam s::l)=(3,s)::kys l:=rfl
theorem kys_sp (l:List Pc):kys (sp::l)=kys l:=rfl
theorem kys_bl (b:List UInt8) (l:List Pc):kys (.bl b::l)=kys l:=rfl
theorem kys_wr (b:Bool) (l:List Pc):kys (wrP b l)=if b then (4,[40])::(kys l++[(4,[41])]) else kys l:=by
 cases b
 ·rfl
 ·show kys (sg [40]::(l++[sg [41]]))=_
  rw [kys_sg,kys_app]
  rfl
theorem ke_wr (b:Bool) {l:List Pc} (h:KE l):KE (wrP b l):=by
 cases b with
 | false=>exact h
 | true=>
  unfold KE
  rw [kys_wr,if_pos rfl]
  refine ⟨⟨_,_,rfl,by decide⟩,fun k hk=>?_⟩
  simp only [List.mem_cons,List.mem_append,List.not_mem_nil,or_false] at hk
  rcases hk with rfl | hk | rfl
  ·decide
  ·exact h.2 k hk
  ·decide
theorem kys_comT_mem:∀(r:List (List Pc)),(∀x∈r,∀k∈kys x,k≠(4,[61]))→∀k∈kys (comT r),k≠(4,[61]):=by
 intro r
 induction r with
 | nil=>intro _ k hk; simp [comT,kys] at hk
 | cons y r ih=>
  intro h k hk
  rw [show comT (y::r)=sg [44]::sp::(y++comT r) from rfl,kys_sg,kys_sp,kys_app] at hk
  simp only [List.mem_cons,List.mem_append] at hk
  rcases hk with rfl | hk | hk
  ·decide
  ·exact h y (by simp) k hk
  ·exact ih (fun x hx=>h x (by simp [hx])) k hk
theorem kys_com_mem (r:List (List Pc)) (h:∀x∈r,∀k∈kys x,k≠(4,[61])):∀k∈kys (comP r),k≠(4,[61]):=by
 cases r with
 | nil=>intro k hk; simp [comP,kys] at hk
 | cons y r=>
  intro k hk
  rw [show comP (y::r)=y++comT r from rfl,kys_app,List.mem_append] at hk
  rcases hk with hk | hk
  ·exact h y (by simp) k hk
  ·exact kys_comT_mem r (fun x hx=>h x (by simp [hx])) k hk
theorem kys_lis_mem {b e:UInt8} (hb:b≠61) (he:e≠61) (ks:List Xp) (h:∀x∈ks,KE x.2):∀k∈kys (lisPc b ks e),k≠(4,[61]):=by
 intro k hk
 rw [show lisPc b ks e=sg [b]::(comP (ks.map (·.2))++[sg [e]]) from rfl,kys_sg,kys_app] at hk
 simp only [List.mem_cons,List.mem_append] at hk
 rcases hk with rfl | hk | hk
 ·intro hc; injection hc with _ hc; injection hc with hc; exact hb hc
 ·refine kys_com_mem _ (fun x hx=>?_) k hk
  obtain ⟨y,h1,rfl⟩:=List.mem_map.1 hx
  exact (h y h1).2
 ·rw [kys_sg] at hk
  simp only [List.mem_cons,kys_nil,List.not_mem_nil,or_false] at hk
  rintro rfl
  injection hk with _ hc
  injection hc with hc
  exact he hc.symm
theorem KE.app {l r:List Pc} (h:KE l) (hr:∀k∈kys r,k≠(4,[61])):KE (l++r):=by
 obtain ⟨⟨k,t,e1,e2⟩,h2⟩:=h
 unfold KE
 rw [kys_app]
 refine ⟨⟨k,t++kys r,by rw [e1]; rfl,e2⟩,fun k hk=>?_⟩
 rcases List.mem_append.1 hk with hk | hk
 ·exact h2 k hk
 ·exact hr k hk
theorem ke_exOne (h:Hd) (ks:List Xp) (hh:exH h ks.length=true) (hk:∀x∈ks,KE x.2):KE (exPc h ks):=by
 unfold exH at hh
 rw [Bool.and_eq_true] at hh
 obtain ⟨-,hh⟩:=hh
 unfold exPc
 have hone:∀k:Ky,okH k=true→k≠(4,[61])→∀b,KE [.tok k b]:=fun k e1 e2 b=>⟨⟨k,[],rfl,e1⟩,fun k' hk'=>by
  have:kys [Pc.tok k b]=[k]:=rfl
  rw [this] at hk'
  simp at hk'
  rw [hk']
  exact e2⟩
 by_cases c1:h.kind=1
 ·rw [if_pos c1]; exact hone _ (by unfold okH; simp) (by intro hc; injection hc with hc; cases hc) _
 rw [if_neg c1] at hh ⊢
 by_cases c2:h.kind=2
 ·rw [if_pos c2]; exact hone _ (by unfold okH; simp) (by intro hc; injection hc with hc; cases hc) _
 rw [if_neg c2] at hh ⊢
 by_cases c3:h.kind=3
 ·rw [if_pos c3]; exact hone _ (by unfold okH; simp) (by intro hc; injection hc with hc; cases hc) _
 rw [if_neg c3] at hh ⊢
 by_cases c9:h.kind=9
 ·rw [if_pos c9]; exact hone _ (by decide) (by decide) _
 rw [if_neg c9]
 by_cases c10:h.kind=10
 ·rw [if_pos c10]; exact hone _ (by decide) (by decide) _
 rw [if_neg c10]
 by_cases c4:h.kind=4
 ·rw [if_pos c4]
  exact ⟨⟨_,_,rfl,by decide⟩,kys_lis_mem (by decide) (by decide) ks hk⟩
 rw [if_neg c4] at hh ⊢
 by_cases c7:h.kind=7
 ·rw [if_pos c7]
  refine ⟨⟨_,_,rfl,by unfold okH; simp⟩,fun k hk2=>?_⟩
  rw [kys_nam,List.mem_cons] at hk2
  rcases hk2 with rfl | hk2
  ·intro hc; injection hc with hc; cases hc
  ·exact kys_lis_mem (by decide) (by decide) ks hk k hk2
 rw [if_neg c7]
 cases ks with
 | nil=>
  exfalso
  by_cases c5:h.kind=5
  ·rw [if_pos c5] at hh; simp at hh
  rw [if_neg c5] at hh
  by_cases c6:h.kind=6
  ·rw [if_pos c6] at hh; simp at hh
  rw [if_neg c6,if_neg c7] at hh
  by_cases c8:h.kind=8
  ·rw [if_pos c8] at hh; simp at hh
  rw [if_neg c8] at hh
  simp [c9,c10] at hh
 | cons x r=>
  obtain ⟨h0,t0⟩:=x
  have hx:KE t0:=hk (h0,t0) (by simp)
  show KE (if h.kind=5 then _ else _)
  by_cases c5:h.kind=5
  ·rw [if_pos c5] at hh ⊢
   have hw:=ke_wr (decide (h0.kind=6)) hx
   simp only [Bool.and_eq_true,Bool.or_eq_true,decide_eq_true_eq] at hh
   have ht:=hh.1
   refine ⟨⟨_,_,rfl,by rcases ht with ht | ht <;> rw [ht] <;> decide⟩,fun k hk2=>?_⟩
   rw [kys_sg,List.mem_cons] at hk2
   rcases hk2 with rfl | hk2
   ·rcases ht with ht | ht <;> rw [ht] <;> decide
   ·exact hw.2 k hk2
  rw [if_neg c5] at hh ⊢
  by_cases c8:h.kind=8
  ·rw [if_pos c8]
   exact (ke_wr _ hx).app (kys_lis_mem (by decide) (by decide) r (fun y hy=>hk y (by simp [hy])))
  rw [if_neg c8] at hh ⊢
  have c6:h.kind=6:=by
   by_cases c6:h.kind=6
   ·exact c6
   ·rw [if_neg c6,if_neg c7] at hh
    simp [c9,c10] at hh
  rw [if_pos c6] at hh
  simp only [Bool.and_eq_true,decide_eq_true_eq] at hh
  cases r with
  | nil=>simp at hh
  | cons y r=>
   obtain ⟨h1,t1⟩:=y
   have hy:KE t1:=hk (h1,t1) (by simp)
   show KE (wrP _ _++_)
   refine (ke_wr _ hx).app fun k hk2=>?_
   rw [kys_sp,kys_sg,kys_sp,List.mem_cons] at hk2
   rcases hk2 with rfl | hk2
   ·intro hc
    injection hc with _ hc
    rw [hc] at hh
    exact absurd hh.1 (by decide)
   ·exact (ke_wr _ hy).2 k hk2
theorem ke_exP:∀(F:Fo),rt .ex F=true→∀x∈exP F,KE x.2:=by
 intro F
 induction F with
 | nil=>intro _ x hx; simp [exP] at hx
 | cons h k r ihk ihr=>
  intro hr x hx
  simp only [rt,Bool.and_eq_true] at hr
  simp only [exP,List.mem_cons] at hx
  rcases hx with rfl | hx
  ·exact ke_exOne h (exP k) (by rw [exP_len]; exact hr.1.1) (ihk hr.1.2)
  ·exact ihr hr.2 x hx
theorem ke_nd {h:Hd} {k:Fo} (hh:exH h k.len=true) (hk:rt .ex k=true):KE (exPc h (exP k)):=ke_exOne h (exP k) (by rw [exP_len]; exact hh) (ke_exP k hk)

def isK (s:List UInt8) (k:Ky):Bool:=(decide (k.1=4)||decide (k.1=5))&&decide (k.2=s)
theorem isT_mk (s x:List UInt8) (k a:Nat) (r:List Tk):isT s (⟨k,x,a⟩::r)=isK s (k,x):=rfl
theorem kcons {ts:List Tk} {k:Ky} {l:List Ky} (h:ts.map Tk.ky=k::l):∃a ts',ts=⟨k.1,k.2,a⟩::ts'∧ts'.map Tk.ky=l:=by
 cases ts with
 | nil=>cases h
 | cons t ts=>
  simp only [List.map_cons,List.cons.injEq] at h
  obtain ⟨h1,h2⟩:=h
  subst h1
  exact ⟨t.at_,ts,rfl,h2⟩
theorem kapp {ts:List Tk} {a b:List Ky} (h:ts.map Tk.ky=a++b):∃t1 t2,ts=t1++t2∧t1.map Tk.ky=a∧t2.map Tk.ky=b:=List.map_eq_append_iff.1 h
theorem knil {ts:List Tk} (h:ts.map Tk.ky=[]):ts=[]:=List.map_eq_nil_iff.1 h
theorem bthn_err {α β:Type} (x:Nat×Nat) (f:α→Pa β):thenT (.error x) f=.error x:=rfl
theorem bthn_ok {α β:Type} (a:α) (l:List Tk) (f:α→Pa β):thenT (.ok (a,l)) f=f a l:=rfl
def Sm (x y:Nd):Prop:=Fo.sameF x.one y.one=true
theorem sameF_app {a a' b b':Fo} (h:Fo.sameF a a'=true) (h2:Fo.sameF b b'=true):Fo.sameF (a.app b) (a'.app b')=true:=by
 induction a generalizing a' with
 | nil=>cases a' with
  | nil=>exact h2
  | cons _ _ _=>simp [Fo.sameF] at h
 | cons hd k r _ ihr=>cases a' with
  | nil=>simp [Fo.sameF] at h
  | cons hd' k' r'=>
   simp only [Fo.sameF,Bool.and_eq_true] at h
   simp only [Fo.app,Fo.sameF,Bool.and_eq_true]
   exact ⟨h.1,ihr h.2⟩
theorem sm_mk {h h':Hd} {k k':Fo} (e1:h.kind=h'.kind) (e2:h.text=h'.text) (e3:h.num=h'.num) (e4:h.names=h'.names) (hk:Fo.sameF k k'=true):Sm (h,k) (h',k'):=by
 simp [Sm,Nd.one,Fo.sameF,e1,e2,e3,e4,hk]
theorem Sm.kids {x y:Nd} (h:Sm x y):Fo.sameF x.one y.one=true:=h
def Dp {α:Type} (R:Except (Nat×Nat) α):Prop:=∃p,R=.error (p,12)
theorem Dp.thn {α β:Type} {R:Except (Nat×Nat) (α×List Tk)} (h:Dp R) (f:α→Pa β):Dp (thenT R f):=by
 obtain ⟨p,rfl⟩:=h
 exact ⟨p,rfl⟩
def Res (R:Except (Nat×Nat) (Nd×List Tk)) (x:Nd) (r:List Tk):Prop:=Dp R∨∃y,R=.ok (y,r)∧Sm x y
def Nxt (s:List UInt8):List Tk→Prop
 | []=>True
 | t::_=>isK s t.ky=false
def Stp (s:Nat):List Tk→Prop
 | []=>True
 | t::_=>isK (bytes [91]) t.ky=false∧isK (bytes [40]) t.ky=false∧(t.kind=4→stren t.text < s)
theorem Stp.mono {s s':Nat} {r:List Tk} (h:Stp s r) (hs:s≤s'):Stp s' r:=by
 cases r with
 | nil=>trivial
 | cons t r=>exact ⟨h.1,h.2.1,fun hk=>Nat.lt_of_lt_of_le (h.2.2 hk) hs⟩
theorem Stp.nx {s:Nat} {r:List Tk} (h:Stp s r):Nxt (bytes [40]) r:=by
 cases r with
 | nil=>trivial
 | cons t r=>exact h.2.1
theorem bbinL_stop (nx:Pa Nd) {s:Nat} {r:List Tk} (h:Stp s r) (n:Nat) (y:Nd):binL nx s n y r=.ok (y,r):=by
 cases n with
 | zero=>rfl
 | succ n=>
  cases r with
  | nil=>rfl
  | cons t r=>
   simp only [binL]
   rw [if_neg]
   rintro ⟨h1,h2⟩
   have:=h.2.2 h1
   omega
theorem bidxL_stop (ex:Pa Nd) {s:Nat} {r:List Tk} (h:Stp s r) (n:Nat) (y:Nd):idxL ex n y r=.ok (y,r):=by
 cases n with
 | zero=>rfl
 | succ n=>
  cases r with
  | nil=>rfl
  | cons t r=>
   simp only [idxL]
   rw [if_neg]
   have:isT (bytes [91]) (t::r)=isK (bytes [91]) t.ky:=rfl
   rw [this,h.1]
   decide

def Rdx (ks:List Ky) (x:Nd) (s:Nat):Prop:=∀(d j:Nat) (ts r:List Tk),ts.map Tk.ky=ks→j≤5→6 - j≤s→Stp (6 - j) r→Res (binP (opdP d) j (ts++r)) x r
def Ldx (ks:List Ky) (x:Nd) (s:Nat):Prop:=∀(d j:Nat) (ts r:List Tk),ts.map Tk.ky=ks→j+1≤5→5 - j≤s→(5 - j=3→4≤s)→Stp (6 - j) r→
 Dp (binP (opdP d) (j+1) (ts++r))∨∃y n,r.length≤n∧binP (opdP d) (j+1) (ts++r)=binL (binP (opdP d) j) (5 - j) n y r∧Sm x y
def Pdx (ks:List Ky) (x:Nd):Prop:=∀(d:Nat) (ts r:List Tk),ts.map Tk.ky=ks→Nxt (bytes [40]) r→
 Dp (opdP (d+1) (ts++r))∨∃y n,r.length≤n∧opdP (d+1) (ts++r)=idxL (binP (opdP d) 5) n y r∧Sm x y
def Odx (ks:List Ky) (x:Nd):Prop:=∀(d:Nat) (ts r:List Tk),ts.map Tk.ky=ks→Stp 6 r→Res (opdP d (ts++r)) x r
theorem dp_zero (l:List Tk):Dp (opdP 0 l):=by
 cases l with
 | nil=>exact ⟨0,rfl⟩
 | cons t r=>exact ⟨t.at_,rfl⟩
theorem Pdx.op {ks:List Ky} {x:Nd} (h:Pdx ks x):Odx ks x:=by
 intro d ts r hk hs
 cases d with
 | zero=>exact Or.inl (dp_zero _)
 | succ d=>
  rcases h d ts r hk hs.nx with h | ⟨y,n,-,h,hm⟩
  ·exact Or.inl h
  ·refine Or.inr ⟨y,?_,hm⟩
   rw [h,bidxL_stop _ hs]
theorem Odx.rd {ks:List Ky} {x:Nd} (h:Odx ks x):Rdx ks x 6:=by
 intro d j ts r hk hj _ hs
 induction j with
 | zero=>exact h d ts r hk hs
 | succ j ih=>
  show Res (thenT (binP (opdP d) j (ts++r)) fun x l2=>binL (binP (opdP d) j) (5 - j) l2.length x l2) x r
  rcases ih (by omega) (by omega) (hs.mono (by omega)) with h | ⟨y,h,hm⟩
  ·exact Or.inl (h.thn _)
  ·refine Or.inr ⟨y,?_,hm⟩
   rw [h,bthn_ok,bbinL_stop _ (hs.mono (by omega))]
theorem Rdx.step {ks:List Ky} {x:Nd} {s:Nat} (h:Rdx ks x s) {d j:Nat} {ts r:List Tk} (hk:ts.map Tk.ky=ks) (hj:j+1≤5) (h6:6 - j≤s) (hs:Stp (6 - j) r):
  Dp (binP (opdP d) (j+1) (ts++r))∨∃y n,r.length≤n∧binP (opdP d) (j+1) (ts++r)=binL (binP (opdP d) j) (5 - j) n y r∧Sm x y:=by
 show Dp (thenT (binP (opdP d) j (ts++r)) fun x l2=>binL (binP (opdP d) j) (5 - j) l2.length x l2)∨∃y n,_∧(thenT (binP (opdP d) j (ts++r)) fun x l2=>binL (binP (opdP d) j) (5 - j) l2.length x l2)=_∧_
 rcases h d j ts r hk (by omega) h6 hs with h | ⟨y,h,hm⟩
 ·exact Or.inl (h.thn _)
 ·exact Or.inr ⟨y,r.length,Nat.le_refl _,by rw [h,bthn_ok],hm⟩
theorem Odx.ld {ks:List Ky} {x:Nd} (h:Odx ks x):Ldx ks x 6:=fun _ _ _ _ hk hj _ _ hs=>h.rd.step hk hj (by omega) hs
theorem stp_op {t:List UInt8} {s a:Nat} (h:stren t=s) (h0:0 < s) (r:List Tk):Stp (s+1) (⟨4,t,a⟩::r):=by
 have hne:∀b,stren b=0→isK b (Tk.ky ⟨4,t,a⟩)=false:=fun b hb=>by
  cases hc:isK b (Tk.ky ⟨4,t,a⟩) with
  | false=>rfl
  | true=>
   unfold isK at hc
   rw [Bool.and_eq_true] at hc
   have h2:=of_decide_eq_true hc.2
   simp only [Tk.ky] at h2
   rw [h2,hb] at h
   omega
 exact ⟨hne _ (by decide),hne _ (by decide),fun _=>by show stren t < s+1; omega⟩
theorem sm_bin {h:Hd} (hkd:h.kind=6) (hn:h.num=0) (hnm:h.names=[]) {x0 x1 y0 y1:Nd} (h0:Sm x0 y0) (h1:Sm x1 y1) (a:Nat):Sm (h,x0.one.app x1.one) (hdT 6 h.text 0 a,y0.one.app y1.one):=
 sm_mk hkd rfl hn hnm (sameF_app h0 h1)
theorem bin_main {h:Hd} {k0 k1:List Ky} {x0 x1:Nd} {s s0 s1:Nat} (hs:stren h.text=s) (h1:0 < s) (h5:s≤5) (h0:Ldx k0 x0 s0) (hl0:leastS h.text≤s0) (hx1:Rdx k1 x1 s1) (hl1:s+1≤s1) (hkd:h.kind=6) (hn:h.num=0) (hnm:h.names=[])
  {d:Nat} {ts r:List Tk} (hk:ts.map Tk.ky=k0++(4,h.text)::k1) (hst:Stp (s+1) r):
  Dp (binP (opdP d) (5 - s+1) (ts++r))∨∃y n,r.length≤n∧(binP (opdP d) (5 - s+1) (ts++r)=if s=3 then .ok (y,r) else binL (binP (opdP d) (5 - s)) s n y r)∧Sm (h,x0.one.app x1.one) y:=by
 obtain ⟨t0,u1,rfl,e0,e2⟩:=kapp hk
 obtain ⟨a,t1,rfl,e1⟩:=kcons e2
 have hl:s≤s0∧(s=3→4≤s0):=by
  unfold leastS at hl0
  rw [hs] at hl0
  split at hl0
  ·omega
  ·omega
 have hj6:6 - (5 - s)=s+1:=by omega
 have hf:=h0 d (5 - s) t0 (⟨4,h.text,a⟩::(t1++r)) e0 (by omega) (by omega) (by omega) (by rw [hj6]; exact stp_op hs h1 _)
 rw [List.append_assoc,List.cons_append]
 rcases hf with hf | ⟨y0,n,hn0,hf,hm0⟩
 ·exact Or.inl hf
 show Dp (binP (opdP d) (5 - s+1) (t0++⟨4,h.text,a⟩::(t1++r)))∨_
 rw [hf,show 5 - (5 - s)=s by omega]
 obtain ⟨n,rfl⟩:∃m,n=m+1:=⟨n - 1,by simp at hn0; omega⟩
 simp only [binL]
 rw [if_pos ⟨trivial,hs⟩]
 have hr:=hx1 d (5 - s) t1 r e1 (by omega) (by omega) (by rw [hj6]; exact hst)
 rcases hr with hr | ⟨y1,hr,hm1⟩
 ·exact Or.inl (hr.thn _)
 rw [hr,bthn_ok]
 refine Or.inr ⟨(hdT 6 h.text 0 a,y0.one.app y1.one),n,by simp at hn0; omega,rfl,sm_bin hkd hn hnm hm0 hm1 a⟩
theorem bin_rd {h:Hd} {k0 k1:List Ky} {x0 x1:Nd} {s s0 s1:Nat} (hs:stren h.text=s) (h1:0 < s) (h5:s≤5) (h0:Ldx k0 x0 s0) (hl0:leastS h.text≤s0) (hx1:Rdx k1 x1 s1) (hl1:s+1≤s1) (hkd:h.kind=6) (hn:h.num=0) (hnm:h.names=[]):
  Rdx (k0++(4,h.text)::k1) (h,x0.one.app x1.one) s:=by
 intro d j ts r hk
 induction j with
 | zero=>intro _ h6; omega
 | succ j ih=>
  intro hj h6 hst
  by_cases hc:6 - j≤s
  ·show Res (thenT (binP (opdP d) j (ts++r)) fun x l2=>binL (binP (opdP d) j) (5 - j) l2.length x l2) _ r
   rcases ih (by omega) hc (hst.mono (by omega)) with h | ⟨y,h,hm⟩
   ·exact Or.inl (h.thn _)
   ·refine Or.inr ⟨y,?_,hm⟩
    rw [h,bthn_ok,bbinL_stop _ (hst.mono (by omega))]
  ·obtain rfl:j=5 - s:=by omega
   have hm:=bin_main hs h1 h5 h0 hl0 hx1 hl1 hkd hn hnm hk (d:=d) (r:=r) (hst.mono (by omega))
   rcases hm with hm | ⟨y,n,-,hm,hsm⟩
   ·exact Or.inl hm
   ·refine Or.inr ⟨y,?_,hsm⟩
    rw [hm]
    split
    ·rfl
    ·exact bbinL_stop _ (hst.mono (by omega)) _ _
theorem bin_ld {h:Hd} {k0 k1:List Ky} {x0 x1:Nd} {s s0 s1:Nat} (hs:stren h.text=s) (h1:0 < s) (h5:s≤5) (h0:Ldx k0 x0 s0) (hl0:leastS h.text≤s0) (hx1:Rdx k1 x1 s1) (hl1:s+1≤s1) (hkd:h.kind=6) (hn:h.num=0) (hnm:h.names=[]):
  Ldx (k0++(4,h.text)::k1) (h,x0.one.app x1.one) s:=by
 intro d j ts r hk hj h6 h3 hst
 by_cases hc:6 - j≤s
 ·exact (bin_rd hs h1 h5 h0 hl0 hx1 hl1 hkd hn hnm).step hk hj hc hst
 ·obtain rfl:j=5 - s:=by omega
  have hm:=bin_main hs h1 h5 h0 hl0 hx1 hl1 hkd hn hnm hk (d:=d) (r:=r) (hst.mono (by omega))
  rw [show 5 - (5 - s)=s by omega]
  have h33:¬ s=3:=by omega
  simp only [if_neg h33] at hm
  exact hm

theorem stp_sg (c:List UInt8) (hc:(!isK (bytes [91]) (4,c)&&!isK (bytes [40]) (4,c)&&decide (stren c=0))=true) (a:Nat) (r:List Tk):Stp 1 (⟨4,c,a⟩::r):=by
 simp only [Bool.and_eq_true,Bool.not_eq_true',decide_eq_true_eq] at hc
 exact ⟨hc.1.1,hc.1.2,fun _=>by show stren c < 1; omega⟩
theorem expT_mk {s:List UInt8} {k a:Nat} {x:List UInt8} (h:isK s (k,x)=true) (r:List Tk):expT s (⟨k,x,a⟩::r)=.ok (⟨k,x,a⟩,r):=by
 simp only [expT]
 rw [isT_mk,h,if_pos rfl]
theorem opd_pri {d k a:Nat} {x:List UInt8} (h1:isK (bytes [45]) (k,x)=false) (h2:isK (bytes [33]) (k,x)=false) (r:List Tk):
  opdP (d+1) (⟨k,x,a⟩::r)=thenT (priP (binP (opdP d) 5) (⟨k,x,a⟩::r)) fun x l2=>idxL (binP (opdP d) 5) l2.length x l2:=by
 simp only [opdP]
 rw [isT_mk,isT_mk,h1,h2,if_neg (by decide)]
theorem pri_pdx {k:Ky} {ks:List Ky} {x:Nd} (h1:isK (bytes [45]) k=false) (h2:isK (bytes [33]) k=false)
  (h:∀(d a:Nat) (ts r:List Tk),ts.map Tk.ky=ks→Nxt (bytes [40]) r→Res (priP (binP (opdP d) 5) (⟨k.1,k.2,a⟩::(ts++r))) x r):Pdx (k::ks) x:=by
 intro d ts r hk hn
 obtain ⟨a,t1,rfl,hk2⟩:=kcons hk
 rw [List.cons_append,opd_pri h1 h2]
 rcases h d a t1 r hk2 hn with h | ⟨y,h,hm⟩
 ·exact Or.inl (h.thn _)
 ·exact Or.inr ⟨y,r.length,Nat.le_refl _,by rw [h,bthn_ok],hm⟩
theorem par_pdx {ks:List Ky} {x:Nd} {s:Nat} (h:Rdx ks x s) (h1:1≤s):Pdx ((4,[40])::(ks++[(4,[41])])) x:=by
 refine pri_pdx (by decide) (by decide) fun d a ts r hk _=>?_
 obtain ⟨t0,t1,rfl,e0,e1⟩:=kapp hk
 obtain ⟨b,t2,rfl,e2⟩:=kcons e1
 obtain rfl:=knil e2
 rw [List.append_assoc,List.singleton_append]
 unfold priP
 simp only
 rw [if_neg (by decide),if_neg (by decide),if_neg (by decide),isT_mk,isT_mk,isT_mk,if_neg (by decide),if_neg (by decide),if_neg (by decide),expT_mk (by decide),bthn_ok]
 rcases h d 5 t0 (⟨4,[41],b⟩::r) e0 (Nat.le_refl _) (by omega) (stp_sg _ (by decide) _ _) with h | ⟨y,h,hm⟩
 ·exact Or.inl (h.thn _)
 ·refine Or.inr ⟨y,?_,hm⟩
  rw [h,bthn_ok,expT_mk (by decide),bthn_ok]
theorem un_odx {h:Hd} {ks:List Ky} {x:Nd} (ho:Rdx ks x 6) (ht:h.text=bytes [45]∨h.text=bytes [33]) (hkd:h.kind=5) (hn:h.num=0) (hnm:h.names=[]):Odx ((4,h.text)::ks) (h,x.one):=by
 intro d ts r hk hs
 cases d with
 | zero=>exact Or.inl (dp_zero _)
 | succ d=>
  obtain ⟨a,t1,rfl,hk2⟩:=kcons hk
  rw [List.cons_append]
  simp only [opdP]
  rw [isT_mk,isT_mk,if_pos (by rcases ht with ht | ht <;> rw [ht] <;> decide)]
  rcases ho d 0 t1 r hk2 (by omega) (by omega) hs with hr | ⟨y,hr,hm⟩
  ·exact Or.inl (Dp.thn hr _)
  ·refine Or.inr ⟨_,?_,sm_mk (h':=hdT 5 h.text 0 a) hkd rfl hn hnm hm⟩
   show thenT (binP (opdP d) 0 (t1++r)) _=_
   rw [hr,bthn_ok]
theorem idx_pdx {h:Hd} {k0 k1:List Ky} {x0 x1:Nd} {s1:Nat} (h0:Pdx k0 x0) (h1:Rdx k1 x1 s1) (hs1:1≤s1) (hkd:h.kind=8) (ht:h.text=[]) (hn:h.num=0) (hnm:h.names=[]):
  Pdx (k0++(4,[91])::(k1++[(4,[93])])) (h,x0.one.app x1.one):=by
 intro d ts r hk hnx
 obtain ⟨t0,t1,rfl,e0,e1⟩:=kapp hk
 obtain ⟨a,t2,rfl,e2⟩:=kcons e1
 obtain ⟨t3,t4,rfl,e3,e4⟩:=kapp e2
 obtain ⟨b,t5,rfl,e5⟩:=kcons e4
 obtain rfl:=knil e5
 simp only [List.append_assoc,List.cons_append,List.nil_append]
 rcases h0 d t0 (⟨4,[91],a⟩::(t3++⟨4,[93],b⟩::r)) e0 (show isK (bytes [40]) (4,[91])=false by decide) with hf | ⟨y0,n,hn0,hf,hm0⟩
 ·exact Or.inl hf
 rw [hf]
 obtain ⟨n,rfl⟩:∃m,n=m+1:=⟨n - 1,by simp at hn0; omega⟩
 simp only [idxL]
 rw [isT_mk,if_pos (by decide)]
 rcases h1 d 5 t3 (⟨4,[93],b⟩::r) e3 (Nat.le_refl _) (by omega) (stp_sg _ (by decide) _ _) with hr | ⟨y1,hr,hm1⟩
 ·exact Or.inl (hr.thn _)
 rw [hr,bthn_ok,expT_mk (by decide),bthn_ok]
 exact Or.inr ⟨_,n,by simp at hn0; omega,rfl,sm_mk hkd ht hn hnm (sameF_app hm0 hm1)⟩

/-! Lists. -/
def AllR:List Xp→Fo→Prop
 | [],.nil=>True
 | x::l,.cons h k r=>(∃s,1≤s∧Rdx (kys x.2) (h,k) s)∧(∃q t,kys x.2=q::t∧okH q=true)∧AllR l r
 | _,_=>False
theorem AllR.len:∀(l:List Xp) (F:Fo),AllR l F→l.length=F.len:=by
 intro l
 induction l with
 | nil=>intro F h; cases F with
  | nil=>rfl
  | cons _ _ _=>exact absurd h (by simp [AllR])
 | cons x l ih=>intro F h; cases F with
  | nil=>exact absurd h (by simp [AllR])
  | cons h k r=>simp only [List.length_cons,Fo.len,ih r (by simpa [AllR] using h.2.2)]
def KRes {α:Type} (R:Except (Nat×Nat) (Fo×α)) (F:Fo) (r:α):Prop:=Dp R∨∃G,R=.ok (G,r)∧Fo.sameF F G=true
theorem okH_not {q:Ky} (h:okH q=true) (e:List UInt8) (he:(!([[116,114,117,101],[102,97,108,115,101],[91],[40],[45],[33]]:List (List UInt8)).contains e)=true):isK e q=false:=by
 cases hc:isK e q with
 | false=>rfl
 | true=>
  exfalso
  unfold isK at hc
  rw [Bool.and_eq_true] at hc
  have h2:=of_decide_eq_true hc.2
  have h1:q.1=4∨q.1=5:=by simpa using hc.1
  obtain ⟨a,b⟩:=q
  simp only at h1 h2
  subst h2
  unfold okH at h
  simp only [Bool.or_eq_true,decide_eq_true_eq,List.mem_cons,Prod.mk.injEq,List.not_mem_nil,or_false] at h
  rcases h with ((h | h) | h) | h
  ·omega
  ·omega
  ·omega
  ·rcases h with ⟨-,rfl⟩ | ⟨-,rfl⟩ | ⟨-,rfl⟩ | ⟨-,rfl⟩ | ⟨-,rfl⟩ | ⟨-,rfl⟩ <;> exact absurd he (by decide)
theorem kys_comT (x:List Pc) (r:List (List Pc)):kys (comT (x::r))=(4,[44])::(kys x++kys (comT r)):=by
 rw [show comT (x::r)=sg [44]::sp::(x++comT r) from rfl,kys_sg,kys_sp,kys_app]
theorem len_app (a b:Fo):(a.app b).len=a.len+b.len:=Fo.app_len a b
theorem lis_tail {d:Nat} {e:UInt8} (he:(!isK (bytes [91]) (4,[e])&&!isK (bytes [40]) (4,[e])&&decide (stren [e]=0))=true) (he2:e≠44):
  ∀(l:List Xp) (F:Fo),AllR l F→∀(n:Nat) (A G:Fo) (ts r:List Tk),F.len < n→A.len≠0→G.len≠0→Fo.sameF A G=true→ts.map Tk.ky=kys (comT (l.map (·.2)))++[(4,[e])]→
   KRes (lisL (binP (opdP d) 5) [e] n G (ts++r)) (A.app F) r:=by
 intro l
 induction l with
 | nil=>
  intro F hA n A G ts r hn _ _ hs hk
  cases F with
  | cons _ _ _=>exact absurd hA (by simp [AllR])
  | nil=>
   obtain ⟨n,rfl⟩:∃m,n=m+1:=⟨n - 1,by omega⟩
   obtain ⟨a,t1,rfl,e1⟩:=kcons (k:=(4,[e])) hk
   obtain rfl:=knil e1
   rw [List.cons_append,List.nil_append,Fo.app_nil]
   refine Or.inr ⟨G,?_,hs⟩
   simp only [lisL]
   rw [isT_mk,if_pos (by simp [isK])]
   rfl
 | cons x l ih=>
  intro F hA n A G ts r hn ha hg hs hk
  cases F with
  | nil=>exact absurd hA (by simp [AllR])
  | cons h k F=>
   obtain ⟨⟨s,h1,hR⟩,⟨q,qt,hq,hqo⟩,hA⟩:=hA
   obtain ⟨n,rfl⟩:∃m,n=m+1:=⟨n - 1,by omega⟩
   rw [List.map_cons,kys_comT,List.cons_append,List.append_assoc] at hk
   obtain ⟨a,t1,rfl,e1⟩:=kcons hk
   obtain ⟨t2,t3,rfl,e2,e3⟩:=kapp e1
   rw [List.cons_append,List.append_assoc]
   simp only [lisL]
   rw [isT_mk,if_neg (by simp [isK,Ne.symm he2]),if_neg hg,expT_mk (by decide),bthn_ok,bthn_ok]
   have hst:Stp 1 (t3++r):=by
    cases l with
    | nil=>
     obtain ⟨b,t4,rfl,-⟩:=kcons (k:=(4,[e])) e3
     exact stp_sg _ he _ _
    | cons y l=>
     rw [List.map_cons,kys_comT] at e3
     obtain ⟨b,t4,rfl,-⟩:=kcons e3
     exact stp_sg _ (by decide) _ _
   rcases hR d 5 t2 (t3++r) e2 (Nat.le_refl _) (by omega) hst with hr | ⟨y,hr,hm⟩
   ·exact Or.inl (hr.thn _)
   rw [hr,bthn_ok]
   have:=ih F hA n (A.app (Nd.one (h,k))) (G.app y.one) t3 r (by simp only [Fo.len] at hn; omega) (by rw [len_app]; omega) (by rw [len_app]; omega) (sameF_app hs hm) e3
   rw [Fo.app_assoc] at this
   exact this
theorem comT_len (l:List (List Pc)):l.length≤(kys (comT l)).length:=by
 induction l with
 | nil=>exact Nat.zero_le _
 | cons x r ih=>rw [kys_comT]; simp only [List.length_cons,List.length_append]; omega
theorem lis_all {d:Nat} {e:UInt8} (he:(!isK (bytes [91]) (4,[e])&&!isK (bytes [40]) (4,[e])&&decide (stren [e]=0))=true) (he2:e≠44) (hn2:(!([[116,114,117,101],[102,97,108,115,101],[91],[40],[45],[33]]:List (List UInt8)).contains [e])=true)
  {l:List Xp} {F:Fo} (hA:AllR l F) {n:Nat} {ts r:List Tk} (hn:ts.length≤n) (hk:ts.map Tk.ky=kys (comP (l.map (·.2)))++[(4,[e])]):KRes (lisL (binP (opdP d) 5) [e] n .nil (ts++r)) F r:=by
 cases l with
 | nil=>
  cases F with
  | cons _ _ _=>exact absurd hA (by simp [AllR])
  | nil=>
   obtain ⟨a,t1,rfl,e1⟩:=kcons (k:=(4,[e])) hk
   obtain rfl:=knil e1
   obtain ⟨n,rfl⟩:∃m,n=m+1:=⟨n - 1,by simp at hn; omega⟩
   refine Or.inr ⟨.nil,?_,rfl⟩
   rw [List.cons_append,List.nil_append]
   simp only [lisL]
   rw [isT_mk,if_pos (by simp [isK])]
   rfl
 | cons x l=>
  cases F with
  | nil=>exact absurd hA (by simp [AllR])
  | cons h k F=>
   obtain ⟨⟨s,h1,hR⟩,⟨q,qt,hq,hqo⟩,hA⟩:=hA
   rw [List.map_cons,show comP (x.2::l.map (·.2))=x.2++comT (l.map (·.2)) from rfl,kys_app,List.append_assoc] at hk
   obtain ⟨t2,t3,rfl,e2,e3⟩:=kapp hk
   have hlen:F.len+1 < n:=by
    have h3:=congrArg List.length e3
    have h4:=comT_len (l.map (·.2))
    have h5:=hA.len
    have h2:=congrArg List.length e2
    rw [hq] at h2
    simp only [List.length_map,List.length_append,List.length_cons] at h2 h3 h4 hn
    omega
   rw [List.append_assoc]
   obtain ⟨n,rfl⟩:∃m,n=m+1:=⟨n - 1,by omega⟩
   rw [hq] at e2
   obtain ⟨a,t4,rfl,e4⟩:=kcons e2
   simp only [lisL,List.cons_append]
   rw [isT_mk,if_neg (by rw [okH_not hqo _ hn2]; decide),if_pos (by rfl),bthn_ok]
   have hst:Stp 1 (t3++r):=by
    cases l with
    | nil=>
     obtain ⟨b,t4,rfl,-⟩:=kcons (k:=(4,[e])) e3
     exact stp_sg _ he _ _
    | cons y l=>
     rw [List.map_cons,kys_comT] at e3
     obtain ⟨b,t4,rfl,-⟩:=kcons e3
     exact stp_sg _ (by decide) _ _
   have hR2:=hR d 5 (⟨q.1,q.2,a⟩::t4) (t3++r) (by rw [hq]; exact e2) (Nat.le_refl _) (by omega) hst
   rw [List.cons_append] at hR2
   rcases hR2 with hr | ⟨y,hr,hm⟩
   ·exact Or.inl (hr.thn _)
   rw [hr,bthn_ok]
   exact lis_tail he he2 l F hA n (Nd.one (h,k)) (Fo.nil.app y.one) t3 r (by omega) (by simp [Nd.one,Fo.len]) (by simp [Nd.one,Fo.len,Fo.app]) hm e3

/-! All expressions. -/
def sN (h:Hd):Nat:=if h.kind=6 then stren h.text else 6
theorem bstren_le (t:List UInt8):stren t≤5:=by unfold stren; repeat' (first | omega | split)
def Cl (h:Hd) (k:Fo):Prop:=∃s,1≤s∧sN h≤s∧Rdx (kys (exPc h (exP k))) (h,k) s∧Ldx (kys (exPc h (exP k))) (h,k) s∧(h.kind≠5→h.kind≠6→Pdx (kys (exPc h (exP k))) (h,k))
theorem Pdx.cl {h:Hd} {k:Fo} (hs:sN h≤6) (hp:Pdx (kys (exPc h (exP k))) (h,k)):Cl h k:=⟨6,by omega,hs,hp.op.rd,hp.op.ld,fun _ _=>hp⟩
theorem sN_le (h:Hd):sN h≤6:=by
 unfold sN
 split
 ·have:=bstren_le h.text; omega
 ·omega
theorem wr_rd {h:Hd} {k:Fo} (hc:Cl h k) (b:Bool) (m:Nat) (hm:m≤6) (hb:b=false→m≤sN h):∃s,m≤s∧Rdx (kys (wrP b (exPc h (exP k)))) (h,k) s∧Ldx (kys (wrP b (exPc h (exP k)))) (h,k) s:=by
 obtain ⟨s,h1,hs,hr,hl,-⟩:=hc
 rw [kys_wr]
 cases b with
 | false=>exact ⟨s,Nat.le_trans (hb rfl) hs,hr,hl⟩
 | true=>
  have hp:=par_pdx hr h1
  exact ⟨6,hm,hp.op.rd,hp.op.ld⟩
theorem wr_pdx {h:Hd} {k:Fo} (hc:Cl h k) (b:Bool) (hb:b=false→h.kind≠5∧h.kind≠6):Pdx (kys (wrP b (exPc h (exP k)))) (h,k):=by
 obtain ⟨s,h1,hs,hr,hl,hp⟩:=hc
 rw [kys_wr]
 cases b with
 | false=>exact hp (hb rfl).1 (hb rfl).2
 | true=>exact par_pdx hr h1
theorem one_eq (h0:Hd) (k0:Fo):Fo.cons h0 k0 .nil=Nd.one (h0,k0):=rfl
theorem two_eq (h0 h1:Hd) (k0 k1:Fo):Fo.cons h0 k0 (.cons h1 k1 .nil)=(Nd.one (h0,k0)).app (Nd.one (h1,k1)):=rfl
theorem len_one {k:Fo} (h:k.len=1):∃h0 k0,k=.cons h0 k0 .nil:=by
 cases k with
 | nil=>simp [Fo.len] at h
 | cons h0 k0 r=>cases r with
  | nil=>exact ⟨h0,k0,rfl⟩
  | cons _ _ _=>simp [Fo.len] at h
theorem len_two {k:Fo} (h:k.len=2):∃h0 k0 h1 k1,k=.cons h0 k0 (.cons h1 k1 .nil):=by
 cases k with
 | nil=>simp [Fo.len] at h
 | cons h0 k0 r=>
  obtain ⟨h1,k1,rfl⟩:=len_one (k:=r) (by simpa [Fo.len] using h)
  exact ⟨h0,k0,h1,k1,rfl⟩
def AllC:Fo→Prop
 | .nil=>True
 | .cons h k r=>Cl h k∧(∃q t,kys (exPc h (exP k))=q::t∧okH q=true)∧AllC r
theorem AllC.allR:∀(F:Fo),AllC F→AllR (exP F) F:=by
 intro F
 induction F with
 | nil=>intro _; trivial
 | cons h k r _ ih=>
  rintro ⟨⟨s,h1,-,hr,-⟩,h2,h3⟩
  exact ⟨⟨s,h1,hr⟩,h2,ih h3⟩
theorem ky_pdx {q:Ky} {x:Nd} (h1:isK (bytes [45]) q=false) (h2:isK (bytes [33]) q=false)
  (h:∀(d a:Nat) (r:List Tk),Nxt (bytes [40]) r→Res (priP (binP (opdP d) 5) (⟨q.1,q.2,a⟩::r)) x r):Pdx [q] x:=by
 refine pri_pdx h1 h2 fun d a ts r hk hn=>?_
 obtain rfl:=knil hk
 exact h d a r hn
theorem sm_leaf {h h':Hd} {k:Fo} (hk:k.len=0) (e1:h.kind=h'.kind) (e2:h.text=h'.text) (e3:h.num=h'.num) (e4:h.names=h'.names):Sm (h,k) (h',.nil):=by
 cases k with
 | nil=>exact sm_mk e1 e2 e3 e4 rfl
 | cons _ _ _=>simp [Fo.len] at hk
theorem isK_num {s x:List UInt8} {n:Nat} (h:n≠4) (h2:n≠5):isK s (n,x)=false:=by unfold isK; simp [h,h2]
theorem cl_nd (h:Hd) (k:Fo) (hh:exH h k.len=true) (hk:AllC k):Cl h k:=by
 have hR:=AllC.allR k hk
 unfold exH at hh
 rw [Bool.and_eq_true,Bool.and_eq_true] at hh
 obtain ⟨⟨hnum,hnam⟩,hh⟩:=hh
 have hnm:h.names=[]:=List.isEmpty_iff.1 hnam
 have hn0:h.kind≠1→h.num=0:=fun hc=>by simpa [hc] using hnum
 by_cases c1:h.kind=1
 ·refine Pdx.cl (sN_le h) ?_
  rw [if_pos c1] at hh
  simp only [Bool.and_eq_true,decide_eq_true_eq] at hh
  rw [show exPc h (exP k)=[.tok (1,Lib.itoa h.num) (Lib.itoa h.num)] by unfold exPc; rw [if_pos c1]]
  refine ky_pdx (isK_num (by decide) (by decide)) (isK_num (by decide) (by decide)) fun d a r _=>?_
  simp only [priP]
  rw [if_pos trivial]
  refine Or.inr ⟨_,rfl,sm_leaf hh.2 c1 (List.isEmpty_iff.1 hh.1.2) ?_ hnm⟩
  show h.num=numV (Lib.itoa h.num)
  unfold numV Lib.itoa
  rw [if_neg (by omega),dec_fold]
  omega
 have hnum0:=hn0 c1
 rw [if_neg c1] at hh
 by_cases c2:h.kind=2
 ·refine Pdx.cl (sN_le h) ?_
  rw [if_pos c2] at hh
  simp only [Bool.and_eq_true,decide_eq_true_eq] at hh
  rw [show exPc h (exP k)=[.tok (2,h.text) (litT h.text)] by unfold exPc; rw [if_neg c1,if_pos c2]]
  refine ky_pdx (isK_num (by decide) (by decide)) (isK_num (by decide) (by decide)) fun d a r _=>?_
  simp only [priP]
  rw [if_neg (by decide),if_pos trivial]
  exact Or.inr ⟨_,rfl,sm_leaf hh.2 c2 rfl hnum0 hnm⟩
 rw [if_neg c2] at hh
 by_cases c3:h.kind=3
 ·refine Pdx.cl (sN_le h) ?_
  rw [if_pos c3] at hh
  simp only [Bool.and_eq_true,decide_eq_true_eq] at hh
  rw [show exPc h (exP k)=[nam h.text] by unfold exPc; rw [if_neg c1,if_neg c2,if_pos c3]]
  refine ky_pdx (q:=(3,h.text)) (isK_num (by decide) (by decide)) (isK_num (by decide) (by decide)) fun d a r hn=>?_
  simp only [priP]
  rw [if_neg (by decide),if_neg (by decide),if_pos trivial,if_neg]
  ·exact Or.inr ⟨_,rfl,sm_leaf hh.2 c3 rfl hnum0 hnm⟩
  ·cases r with
   | nil=>decide
   | cons t r=>
    have:isT (bytes [40]) (t::r)=isK (bytes [40]) t.ky:=rfl
    rw [this,hn]
    decide
 rw [if_neg c3] at hh
 by_cases c9:h.kind=9
 ·refine Pdx.cl (sN_le h) ?_
  rw [if_neg (by omega),if_neg (by omega),if_neg (by omega),if_neg (by omega),if_neg (by omega)] at hh
  simp only [Bool.and_eq_true,decide_eq_true_eq] at hh
  rw [show exPc h (exP k)=[wd [116,114,117,101]] by unfold exPc; rw [if_neg c1,if_neg c2,if_neg c3,if_pos c9]]
  refine ky_pdx (q:=(5,[116,114,117,101])) (by decide) (by decide) fun d a r hn=>?_
  simp only [priP]
  rw [if_neg (by decide),if_neg (by decide),if_neg (by decide),isT_mk,if_pos (by decide)]
  exact Or.inr ⟨_,rfl,sm_leaf hh.2 c9 (List.isEmpty_iff.1 hh.1.2) hnum0 hnm⟩
 by_cases c10:h.kind=10
 ·refine Pdx.cl (sN_le h) ?_
  rw [if_neg (by omega),if_neg (by omega),if_neg (by omega),if_neg (by omega),if_neg (by omega)] at hh
  simp only [Bool.and_eq_true,decide_eq_true_eq] at hh
  rw [show exPc h (exP k)=[wd [102,97,108,115,101]] by unfold exPc; rw [if_neg c1,if_neg c2,if_neg c3,if_neg c9,if_pos c10]]
  refine ky_pdx (q:=(5,[102,97,108,115,101])) (by decide) (by decide) fun d a r hn=>?_
  simp only [priP]
  rw [if_neg (by decide),if_neg (by decide),if_neg (by decide),isT_mk,isT_mk,if_neg (by decide),if_pos (by decide)]
  exact Or.inr ⟨_,rfl,sm_leaf hh.2 c10 (List.isEmpty_iff.1 hh.1.2) hnum0 hnm⟩
 by_cases c4:h.kind=4
 ·refine Pdx.cl (sN_le h) ?_
  rw [if_pos c4] at hh
  rw [show exPc h (exP k)=lisPc 91 (exP k) 93 by unfold exPc; rw [if_neg c1,if_neg c2,if_neg c3,if_neg c9,if_neg c10,if_pos c4]]
  refine pri_pdx (k:=(4,[91])) (by decide) (by decide) fun d a ts r hk2 _=>?_
  replace hk2:ts.map Tk.ky=kys (comP ((exP k).map (·.2))++[sg [93]]):=hk2
  rw [kys_app] at hk2
  simp only [priP]
  rw [if_neg (by decide),if_neg (by decide),if_neg (by decide),isT_mk,isT_mk,isT_mk,if_neg (by decide),if_neg (by decide),if_pos (by decide)]
  rcases lis_all (d:=d) (e:=93) (by decide) (by decide) (by decide) hR (n:=(ts++r).length+1) (ts:=ts) (r:=r) (by simp; omega) hk2 with hr | ⟨G,hr,hm⟩
  ·exact Or.inl (Dp.thn hr _)
  ·refine Or.inr ⟨_,?_,sm_mk (h':=hdT 4 [] 0 a) c4 (List.isEmpty_iff.1 hh) hnum0 hnm hm⟩
   rw [show bytes [93]=[93] from rfl,hr,bthn_ok]
 rw [if_neg c4] at hh
 by_cases c7:h.kind=7
 ·refine Pdx.cl (sN_le h) ?_
  rw [show exPc h (exP k)=nam h.text::lisPc 40 (exP k) 41 by unfold exPc; rw [if_neg c1,if_neg c2,if_neg c3,if_neg c9,if_neg c10,if_neg c4,if_pos c7]]
  refine pri_pdx (k:=(3,h.text)) (isK_num (by decide) (by decide)) (isK_num (by decide) (by decide)) fun d a ts r hk2 _=>?_
  obtain ⟨b,t1,rfl,hk3⟩:=kcons (k:=(4,[40])) hk2
  replace hk3:t1.map Tk.ky=kys (comP ((exP k).map (·.2))++[sg [41]]):=hk3
  rw [kys_app] at hk3
  simp only [priP,List.cons_append]
  rw [if_neg (by decide),if_neg (by decide),if_pos trivial,isT_mk,if_pos (by decide)]
  rcases lis_all (d:=d) (e:=41) (by decide) (by decide) (by decide) hR (n:=(t1++r).length+1) (ts:=t1) (r:=r) (by simp; omega) hk3 with hr | ⟨G,hr,hm⟩
  ·exact Or.inl (Dp.thn hr _)
  ·refine Or.inr ⟨_,?_,sm_mk (h':=hdT 7 h.text 0 a) c7 rfl hnum0 hnm hm⟩
   show thenT (lisL (binP (opdP d) 5) [41] ((t1++r).length+1) .nil (t1++r)) _=_
   rw [hr,bthn_ok]
 by_cases c5:h.kind=5
 ·rw [if_pos c5] at hh
  simp only [Bool.and_eq_true,Bool.or_eq_true,decide_eq_true_eq] at hh
  obtain ⟨h0,k0,rfl⟩:=len_one hh.2
  obtain ⟨hc0,-,-⟩:=hk
  have he:exPc h (exP (.cons h0 k0 .nil))=sg h.text::wrP (decide (h0.kind=6)) (exPc h0 (exP k0)):=by
   unfold exPc; rw [if_neg c1,if_neg c2,if_neg c3,if_neg c9,if_neg c10,if_neg c4,if_neg c7]
   show (if h.kind=5 then _ else _)=_
   rw [if_pos c5]
   rfl
  obtain ⟨s,hs,hr,-⟩:=wr_rd hc0 (decide (h0.kind=6)) 6 (Nat.le_refl _) (fun hb=>by unfold sN; rw [if_neg (by simpa using hb)]; exact Nat.le_refl _)
  have ho:=un_odx (h:=h) (x:=(h0,k0)) (fun d j ts r e1 e2 e3 e4=>hr d j ts r e1 e2 (by omega) e4) hh.1 c5 hnum0 hnm
  refine ⟨6,by omega,sN_le h,?_,?_,fun hc=>absurd c5 hc⟩
  ·rw [he,kys_sg]; exact ho.rd
  ·rw [he,kys_sg]; exact ho.ld
 rw [if_neg c5] at hh
 by_cases c6:h.kind=6
 ·rw [if_pos c6] at hh
  simp only [Bool.and_eq_true,decide_eq_true_eq] at hh
  obtain ⟨h0,k0,h1,k1,rfl⟩:=len_two hh.2
  obtain ⟨hc0,-,hc1,-,-⟩:=hk
  have he:exPc h (exP (.cons h0 k0 (.cons h1 k1 .nil)))=wrP (weakB h0 (leastS h.text)) (exPc h0 (exP k0))++(sp::sg h.text::sp::wrP (weakB h1 (stren h.text+1)) (exPc h1 (exP k1))):=by
   unfold exPc; rw [if_neg c1,if_neg c2,if_neg c3,if_neg c9,if_neg c10,if_neg c4,if_neg c7]
   show (if h.kind=5 then _ else if h.kind=8 then _ else _)=_
   rw [if_neg c5,if_neg (by omega)]
   rfl
  have hlt:=bstren_le h.text
  have hwk:∀(h0:Hd) (m:Nat),m≤6→weakB h0 m=false→m≤sN h0:=fun h0 m hm hb=>by
   unfold weakB at hb
   unfold sN
   split
   ·rename_i hc; simpa [hc] using hb
   ·exact hm
  have hl:leastS h.text≤6:=by unfold leastS; split <;> omega
  obtain ⟨s0,hs0,-,hl0⟩:=wr_rd hc0 (weakB h0 (leastS h.text)) (leastS h.text) hl (hwk h0 _ hl)
  obtain ⟨s1,hs1,hr1,-⟩:=wr_rd hc1 (weakB h1 (stren h.text+1)) (stren h.text+1) (by omega) (hwk h1 _ (by omega))
  have hk2:kys (exPc h (exP (.cons h0 k0 (.cons h1 k1 .nil))))=kys (wrP (weakB h0 (leastS h.text)) (exPc h0 (exP k0)))++(4,h.text)::kys (wrP (weakB h1 (stren h.text+1)) (exPc h1 (exP k1))):=by
   rw [he,kys_app,kys_sp,kys_sg,kys_sp]
  have hb:=bin_rd rfl hh.1 hlt hl0 hs0 hr1 hs1 c6 hnum0 hnm
  have hbl:=bin_ld rfl hh.1 hlt hl0 hs0 hr1 hs1 c6 hnum0 hnm
  refine ⟨stren h.text,hh.1,by unfold sN; rw [if_pos c6]; exact Nat.le_refl _,?_,?_,fun _ hc=>absurd c6 hc⟩
  ·rw [hk2]; exact hb
  ·rw [hk2]; exact hbl
 rw [if_neg c6,if_neg c7] at hh
 have c8:h.kind=8:=by
  by_cases c8:h.kind=8
  ·exact c8
  ·rw [if_neg c8] at hh
   simp [c9,c10] at hh
 refine Pdx.cl (sN_le h) ?_
 rw [if_pos c8] at hh
 simp only [Bool.and_eq_true,decide_eq_true_eq] at hh
 obtain ⟨h0,k0,h1,k1,rfl⟩:=len_two hh.2
 obtain ⟨hc0,-,⟨s1,hs1,-,hr1,-⟩,-,-⟩:=hk
 have he:exPc h (exP (.cons h0 k0 (.cons h1 k1 .nil)))=wrP (decide (h0.kind=6)||decide (h0.kind=5)) (exPc h0 (exP k0))++(sg [91]::(exPc h1 (exP k1)++[sg [93]])):=by
  unfold exPc; rw [if_neg c1,if_neg c2,if_neg c3,if_neg c9,if_neg c10,if_neg c4,if_neg c7]
  show (if h.kind=5 then _ else if h.kind=8 then _ else _)=_
  rw [if_neg c5,if_pos c8]
  show _++lisPc 91 [(h1,exPc h1 (exP k1))] 93=_
  unfold lisPc comP comT
  simp
  rfl
 rw [he,kys_app,kys_sg,kys_app]
 refine idx_pdx (wr_pdx hc0 _ (fun hb=>?_)) hr1 hs1 c8 (List.isEmpty_iff.1 hh.1) hnum0 hnm
 simp at hb
 exact ⟨hb.2,hb.1⟩
theorem cl_all:∀(F:Fo),rt .ex F=true→AllC F:=by
 intro F
 induction F with
 | nil=>intro _; trivial
 | cons h k r ihk ihr=>
  intro hr
  simp only [rt,Bool.and_eq_true] at hr
  exact ⟨cl_nd h k hr.1.1 (ihk hr.1.2),(ke_nd hr.1.1 hr.1.2).1,ihr hr.2⟩
theorem ex_res {h:Hd} {k:Fo} (hh:exH h k.len=true) (hk:rt .ex k=true) {d:Nat} {ts r:List Tk} (ht:ts.map Tk.ky=kys (exPc h (exP k))) (hs:Stp 1 r):Res (expP d (ts++r)) (h,k) r:=by
 obtain ⟨s,h1,-,hr,-⟩:=cl_nd h k hh (cl_all k hk)
 exact hr d 5 ts r ht (Nat.le_refl _) (by omega) hs
end Go.Proofs.YtbaidkefobhipaaGreatDoor
