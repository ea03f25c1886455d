/-
  Walk: the reference's Same.
  An append of a row of nodes to an own row; a store of a place into a node of an own row.
-/
import Derived.Test.YtbaidkefobhipaaGreatDoorZS31
import Derived.Test.YtbaidkefobhipaaGreatDoorZS33
namespace Go.Proofs.YtbaidkefobhipaaGreatDoor
set_option maxHeartbeats 16000000
set_option maxRecDepth 100000
open Go.RowKit

theorem sameF_appL:∀(A B R S:Fo),Fo.sameF A B=true→Fo.sameF (A.app R) (B.app S)=Fo.sameF R S:=by
 intro A
 induction A with
 | nil=>intro B R S h; cases B with
  | nil=>rfl
  | cons _ _ _=>simp [Fo.sameF] at h
 | cons hd k r _ ihr=>intro B R S h; cases B with
  | nil=>simp [Fo.sameF] at h
  | cons hd' k' r'=>
   simp only [Fo.sameF,Bool.and_eq_true] at h
   simp only [Fo.app,Fo.sameF,ihr r' R S h.2,h.1.2,h.1.1.2,h.1.1.1.2,h.1.1.1.1.2,h.1.1.1.1.1,Bool.true_and]
theorem sameF_len:∀(A B:Fo),Fo.sameF A B=true→A.len=B.len:=by
 intro A
 induction A with
 | nil=>intro B h; cases B with
  | nil=>rfl
  | cons _ _ _=>simp [Fo.sameF] at h
 | cons hd k r _ ihr=>intro B h; cases B with
  | nil=>simp [Fo.sameF] at h
  | cons hd' k' r'=>
   simp only [Fo.sameF,Bool.and_eq_true] at h
   simp only [Fo.len,ihr r' h.2]
theorem rsame_all:∀(N:Nat) (F G:Fo) (v1 v2:Value) (w:World),F.size < N→FRow w v1 F→FRow w v2 G→
  Calls Tryz.prog 12 #[v1,v2] w fun e w'=>e=.returned (.bool (Fo.sameF F G))∧Below w.heap.size w w':=by
 intro N
 induction N with
 | zero=>intro F G v1 v2 w h; omega
 | succ N ih=>
  intro F G v1 v2 w hN hr hr'
  have HIH:=zH ih
  have HN:=zH hN
  clear ih hN
  obtain ⟨x,c,rfl,hl,hc,-⟩:=id hr
  obtain ⟨x',c',rfl,hl',hc',-⟩:=id hr'
  have HR:=zH hr
  have HR':=zH hr'
  have HB0:=zH (Below.refl w.heap.size w)
  unfold maxLen at hc hc'
  clear hr hr'
  by_cases hln:F.len=G.len
  case neg=>
   have hsF:Fo.sameF F G=false:=by
    cases hs:Fo.sameF F G with
    | false=>rfl
    | true=>exact absurd (sameF_len F G hs) hln
   have HSF:=zH hsF
   obtain ⟨n,hn⟩:∃n,F.len=n:=⟨_,rfl⟩
   obtain ⟨n',hn'⟩:∃n,G.len=n:=⟨_,rfl⟩
   rw [hn,hn'] at hln
   rw [hn] at HR hl ⊢
   rw [hn'] at HR' hl' ⊢
   have e1:((n:Int) != (n':Int))=true:=by simp; omega
   clear hsF hn hn'
   go_enter Tryz.func12,Tryz.ntmps12
   go_wp2_with fail
   go_ret
   exact ⟨by rw [HSF.out]; rfl,HB0.out⟩
  case pos=>
  rw [← hln] at HR' hl' ⊢
  obtain ⟨n,hn⟩:∃n,F.len=n:=⟨_,rfl⟩
  have HLG:Hid (G.len=n):=hln.symm.trans hn
  rw [hn] at HR HR' hl hl' ⊢
  have HL:=zH hn
  obtain ⟨w0,hw0⟩:∃w0,w0=w:=⟨_,rfl⟩
  rw [← hw0] at HB0 HR HR' ⊢
  obtain ⟨Z,hZ⟩:∃b,Fo.sameF F G=b:=⟨_,rfl⟩
  have HZ:=zH hZ
  rw [hZ]
  clear hn hw0 hln hZ
  go_enter Tryz.func12,Tryz.ntmps12
  go_wp2_with fail
  go_loopw [5] (fun vi wr=>∃(i:Nat) (A R B S:Fo),vi=.int .i64 i∧i≤n∧Hid (F=A.app R∧A.len=i)∧Hid (G=B.app S∧B.len=i)∧Hid (Fo.sameF A B=true)∧Hid (Below w0.heap.size w0 wr)) (fun vi _=>n - (intOf vi).toNat)
  case atStart=>exact ⟨0,.nil,F,.nil,G,rfl,Nat.zero_le _,⟨rfl,rfl⟩,⟨rfl,rfl⟩,rfl,HB0.out⟩
  case round=>
   obtain ⟨i,A,R,B,S,rfl,hi,hA,hB,hAB,hbw⟩:=hrel
   by_cases hlt:i < n
   ·have dlt:decide ((i:Int) < (n:Int))=true:=by simp; omega
    have i1:(i:Int) < (n:Int):=by omega
    obtain ⟨h,k,r,rfl⟩:∃h k r,R=.cons h k r:=by
     cases R with
     | nil=>have h1:=hA.out.2; have h2:=HL.out; rw [hA.out.1,Fo.app_nil] at h2; omega
     | cons h k r=>exact ⟨h,k,r,rfl⟩
    obtain ⟨h',k',r',rfl⟩:∃h k r,S=.cons h k r:=by
     cases S with
     | nil=>have h1:=hB.out.2; have h2:=HLG.out; rw [hB.out.1,Fo.app_nil] at h2; omega
     | cons h k r=>exact ⟨h,k,r,rfl⟩
    have hf1:FRow wr (.slice x n c) (A.app (.cons h k r)):=by rw [← hA.out.1]; exact HR.out.below hbw.out
    have hf2:FRow wr (.slice x' n c') (B.app (.cons h' k' r')):=by rw [← hB.out.1]; exact HR'.out.below hbw.out
    obtain ⟨b,off,xn,cn,xk,ck,rfl,⟨k0,k1,k2,k3,k4,k5⟩,hn1,hk1⟩:=hf1.node
    obtain ⟨b',off',xn',cn',xk',ck',rfl,⟨q0,q1,q2,q3,q4,q5⟩,hn2,hk2⟩:=hf2.node
    rw [hA.out.2] at k0 k1 k2 k3 k4 k5
    rw [hB.out.2] at q0 q1 q2 q3 q4 q5
    have hks:k.size < N:=by
     have h1:=HN.out
     rw [hA.out.1] at h1
     have:=Fo.kid_size A h k r
     omega
    have hzz:Fo.sameF (.cons h k r) (.cons h' k' r')=Z:=by rw [← HZ.out,hA.out.1,hB.out.1,sameF_appL _ _ _ _ hAB.out]
    have hzz2:(h.kind==h'.kind&&h.text==h'.text&&h.num==h'.num&&h.names==h'.names&&Fo.sameF k k'&&Fo.sameF r r')=Z:=hzz
    have HK:=zH (fun w' (hb:Below wr.heap.size wr w')=>HIH.out k k' _ _ w' hks (hk1.below hb) (hk2.below hb))
    have HNN:=zH hn1
    have HNM:=zH hn2
    have HNX:Hid (F=(A.app (.cons h k .nil)).app r∧(A.app (.cons h k .nil)).len=i+1):=⟨by rw [← Fo.next]; exact hA.out.1,by rw [Fo.app_len,hA.out.2]; rfl⟩
    have HNY:Hid (G=(B.app (.cons h' k' .nil)).app r'∧(B.app (.cons h' k' .nil)).len=i+1):=⟨by rw [← Fo.next]; exact hB.out.1,by rw [Fo.app_len,hB.out.2]; rfl⟩
    have HAB2:Hid (h.kind=h'.kind→h.text=h'.text→h.num=h'.num→h.names=h'.names→Fo.sameF k k'=true→Fo.sameF (A.app (.cons h k .nil)) (B.app (.cons h' k' .nil))=true):=fun g1 g2 g3 g4 g5=>by
     rw [sameF_appL _ _ _ _ hAB.out]
     simp [Fo.sameF,g1,g2,g3,g4,g5]
    obtain ⟨_,_,hvn,hnl,hnc,-⟩:=id hn1
    injection hvn with e1 e2 e3
    subst e1 e3
    obtain ⟨_,_,hvn2,hnl2,hnc2,-⟩:=id hn2
    injection hvn2 with e4 e5 e6
    subst e4 e6
    unfold maxLen at hnc hnc2
    obtain ⟨kd,tx,nu,nm,ps⟩:=h
    obtain ⟨kd',tx',nu',nm',ps'⟩:=h'
    simp only at k0 k1 k2 k3 k4 k5 q0 q1 q2 q3 q4 q5 hnl hnl2 HNN HNM hzz2 HAB2
    have HZ2:=zH hzz2
    obtain ⟨m,hm⟩:∃m,nm.length=m:=⟨_,rfl⟩
    obtain ⟨m',hm'⟩:∃m,nm'.length=m:=⟨_,rfl⟩
    have HM:=zH hm
    have HM':=zH hm'
    obtain ⟨kl,hkl⟩:∃m,k.len=m:=⟨_,rfl⟩
    obtain ⟨kl',hkl'⟩:∃m,k'.len=m:=⟨_,rfl⟩
    rw [hm] at k3 hnl HNN
    rw [hm'] at q3 hnl2 HNM
    rw [hkl] at k4 HK
    rw [hkl'] at q4 HK
    clear hks hk1 hk2 hn1 hn2 hf1 hf2 hA hB hAB e2 e5 hm hm' hkl hkl' hzz hzz2
    have hb1:=(Below.refl wr.heap.size wr).alloc (Nat.le_refl _) (.cells #[.int .i64 kd,.string ⟨tx.toArray⟩,.int .i64 nu,.slice xn m cn,.slice xk kl ck,.int .i64 ps] 31)
    have tr:=fun o u (h:wr.cell? ⟨b',o,none⟩=some u)=>(hb1.cell (p:=⟨b',o,none⟩) (World.block_lt_of_cell? wr _ h)).trans h
    replace q0:=tr _ _ q0
    replace q1:=tr _ _ q1
    replace q2:=tr _ _ q2
    replace q3:=tr _ _ q3
    replace q4:=tr _ _ q4
    replace q5:=tr _ _ q5
    have HKB:=zH (Blk.new wr 31 #[.int .i64 kd,.string ⟨tx.toArray⟩,.int .i64 nu,.slice xn m cn,.slice xk kl ck,.int .i64 ps])
    have HB1:=zH hb1
    clear tr hb1
    go_upto_region 7 with fail
    clear k0 k1 k2 k3 k4 k5
    generalize wr.alloc (.cells #[.int .i64 kd,.string ⟨tx.toArray⟩,.int .i64 nu,.slice xn m cn,.slice xk kl ck,.int .i64 ps] 31)=wy at*
    generalize hKB1:wr.heap.size=KB at*
    go_upto_region 8 with fail
    have hb2:=(Below.refl wy.heap.size wy).alloc (Nat.le_refl _) (.cells #[.int .i64 kd',.string ⟨tx'.toArray⟩,.int .i64 nu',.slice xn' m' cn',.slice xk' kl' ck',.int .i64 ps'] 31)
    have HKC:=zH (Blk.new wy 31 #[.int .i64 kd',.string ⟨tx'.toArray⟩,.int .i64 nu',.slice xn' m' cn',.slice xk' kl' ck',.int .i64 ps'])
    have HKB2:=zH (HKB.out.alloc (.cells #[.int .i64 kd',.string ⟨tx'.toArray⟩,.int .i64 nu',.slice xn' m' cn',.slice xk' kl' ck',.int .i64 ps'] 31))
    have HB2:=zH (HB1.out.trans (hb2.mono (Nat.le_of_lt HKB.out.lt)))
    have HLT:Hid (KB < wy.heap.size):=HKB.out.lt
    clear hb2 q0 q1 q2 q3 q4 q5 HB1 HKB
    generalize wy.alloc (.cells #[.int .i64 kd',.string ⟨tx'.toArray⟩,.int .i64 nu',.slice xn' m' cn',.slice xk' kl' ck',.int .i64 ps'] 31)=wz at*
    generalize wy.heap.size=KC at*
    have HWZ:Hid (Below w0.heap.size w0 wz):=hbw.out.trans (HB2.out.mono (by rw [← hKB1]; exact hbw.out.size))
    have y0:wz.cell? ⟨KB,0,none⟩=some (.int .i64 kd):=HKB2.out.cell 0
    have y1:wz.cell? ⟨KB,1,none⟩=some (.string ⟨tx.toArray⟩):=HKB2.out.cell 1
    have y2:wz.cell? ⟨KB,2,none⟩=some (.int .i64 nu):=HKB2.out.cell 2
    have y3:wz.cell? ⟨KB,3,none⟩=some (.slice xn m cn):=HKB2.out.cell 3
    have y4:wz.cell? ⟨KB,4,none⟩=some (.slice xk kl ck):=HKB2.out.cell 4
    have y5:wz.cell? ⟨KB,5,none⟩=some (.int .i64 ps):=HKB2.out.cell 5
    have z0:wz.cell? ⟨KC,0,none⟩=some (.int .i64 kd'):=HKC.out.cell 0
    have z1:wz.cell? ⟨KC,1,none⟩=some (.string ⟨tx'.toArray⟩):=HKC.out.cell 1
    have z2:wz.cell? ⟨KC,2,none⟩=some (.int .i64 nu'):=HKC.out.cell 2
    have z3:wz.cell? ⟨KC,3,none⟩=some (.slice xn' m' cn'):=HKC.out.cell 3
    have z4:wz.cell? ⟨KC,4,none⟩=some (.slice xk' kl' ck'):=HKC.out.cell 4
    have z5:wz.cell? ⟨KC,5,none⟩=some (.int .i64 ps'):=HKC.out.cell 5
    by_cases g1:kd=kd'
    case neg=>
     have HF:Hid (Z=false):=by show Z=false; rw [← HZ2.out]; simp [g1]
     have f1:(kd != kd')=true:=by simpa using g1
     clear HK
     go_wp2_with fail
     go_ret
     exact ⟨by rw [HF.out]; rfl,HWZ.out⟩
    case pos=>
    subst g1
    by_cases g2:tx=tx'
    case neg=>
     have HF:Hid (Z=false):=by show Z=false; rw [← HZ2.out]; simp [g2]
     have f1:(tx==tx')=false:=by simpa using g2
     clear HK
     go_wp2_with fail
     go_ret
     exact ⟨by rw [HF.out]; rfl,HWZ.out⟩
    case pos=>
    subst g2
    by_cases g3:nu=nu'
    case neg=>
     have HF:Hid (Z=false):=by show Z=false; rw [← HZ2.out]; simp [g3]
     have f1:(nu != nu')=true:=by simpa using g3
     clear HK
     go_wp2_with fail
     go_ret
     exact ⟨by rw [HF.out]; rfl,HWZ.out⟩
    case pos=>
    subst g3
    by_cases g4:m=m'
    case neg=>
     have HF:Hid (Z=false):=by
      have:nm≠nm':=by rintro rfl; exact g4 (HM.out.symm.trans HM'.out)
      show Z=false; rw [← HZ2.out]; simp [this]
     have f1:((m:Int) != (m':Int))=true:=by simp; omega
     clear HK
     go_wp2_with fail
     go_ret
     exact ⟨by rw [HF.out]; rfl,HWZ.out⟩
    case pos=>
    subst g4
    have HKK:=zH (HK.out wz HB2.out)
    clear HK
    have HZB:Hid (KB < wz.heap.size):=HKB2.out.lt
    have HZC:Hid (KC < wz.heap.size):=HKC.out.lt
    obtain ⟨sb,hsb⟩:∃q,Fo.sameF k k'=q:=⟨_,rfl⟩
    have HSB:=zH hsb
    rw [hsb] at HKK
    clear hsb
    cases sb with
    | false=>
     have HF:Hid (Z=false):=by show Z=false; rw [← HZ2.out,HSB.out]; simp
     go_wp2_with fail
     refine HKK.out.mono ?_
     rintro e w5 ⟨rfl,hb⟩
     have HW5:=zH (HWZ.out.trans (hb.mono HWZ.out.size))
     clear hb HKK
     go_wp2_with fail
     go_ret
     exact ⟨by rw [HF.out]; rfl,HW5.out⟩
    | true=>
    go_wp2_with fail
    refine HKK.out.mono ?_
    rintro e w5 ⟨rfl,hb⟩
    have HKB5:Hid (Blk w5 KB 31 #[.int .i64 kd,.string ⟨tx.toArray⟩,.int .i64 nu,.slice xn m cn,.slice xk kl ck,.int .i64 ps]):=(hb.block _ HZB.out).trans HKB2.out
    have HKC5:Hid (Blk w5 KC 31 #[.int .i64 kd,.string ⟨tx.toArray⟩,.int .i64 nu,.slice xn' m cn',.slice xk' kl' ck',.int .i64 ps']):=(hb.block _ HZC.out).trans HKC.out
    have HB5:=zH (HB2.out.trans (hb.mono (Nat.le_of_lt HZB.out)))
    have HW5:=zH (HWZ.out.trans (hb.mono HWZ.out.size))
    have HN5:=zH (HNN.out.below (by rw [hKB1]; exact HB5.out))
    have HM5:=zH (HNM.out.below (by rw [hKB1]; exact HB5.out))
    clear hb HKK HKB2 HKC HB2 HNN HNM y0 y1 y2 y3 y4 y5 z0 z1 z2 z3 z4 z5 HZB HZC HB5 hbw HWZ
    have y3:w5.cell? ⟨KB,3,none⟩=some (.slice xn m cn):=HKB5.out.cell 3
    have z3:w5.cell? ⟨KC,3,none⟩=some (.slice xn' m cn'):=HKC5.out.cell 3
    go_wp2_with fail
    go_loopw [8] (fun vj wj=>∃(j d:Nat),vj=.int .i64 j∧j≤m∧Hid (nm.take j=nm'.take j)∧Hid (wj=w5.drewN d)) (fun vj _=>m - (intOf vj).toNat)
    case atStart=>exact ⟨0,0,rfl,Nat.zero_le _,rfl,rfl⟩
    case round=>
     obtain ⟨j,d,rfl,hj,htk,hwj⟩:=hrel
     obtain rfl:=hwj.out
     clear hwj
     have y3:(w5.drewN d).cell? ⟨KB,3,none⟩=some (.slice xn m cn):=HKB5.out.cell 3
     have z3:(w5.drewN d).cell? ⟨KC,3,none⟩=some (.slice xn' m cn'):=HKC5.out.cell 3
     by_cases hltj:j < m
     ·have dltj:decide ((j:Int) < (m:Int))=true:=by simp; omega
      have j1:(j:Int) < (m:Int):=by omega
      have hjl:j < nm.length:=by rw [HM.out]; exact hltj
      have hjl':j < nm'.length:=by rw [HM'.out]; exact hltj
      obtain ⟨b1,o1,rfl,-,c1⟩:=nm_cell HN5.out j hjl
      obtain ⟨b2,o2,rfl,-,c2⟩:=nm_cell HM5.out j hjl'
      obtain ⟨y,hy⟩:∃y,nm[j]=y:=⟨_,rfl⟩
      obtain ⟨y',hy'⟩:∃y,nm'[j]=y:=⟨_,rfl⟩
      have HTK:Hid (y=y'→nm.take (j+1)=nm'.take (j+1)):=fun he=>by
       rw [List.take_add_one,List.take_add_one,htk.out,List.getElem?_eq_getElem hjl,List.getElem?_eq_getElem hjl',hy,hy',he]
      have HTN:Hid (y≠y'→Z=false):=fun hne=>by
       have:nm≠nm':=by
        rintro rfl
        exact hne (hy.symm.trans hy')
       rw [← HZ2.out]; simp [this]
      rw [hy] at c1
      rw [hy'] at c2
      clear hy hjl hy' hjl'
      have HWD:Hid (∀e,Below w0.heap.size w0 (w5.drewN e)):=fun e=>below_drewN HW5.out e
      by_cases g:y=y'
      ·subst g
       have HT:=zH (HTK.out rfl)
       clear HTN HTK htk
       go_upto_region 13 with fail
       go_region_law fail
       all_goals
        go_wp2_with fail
        go_roundw
        case rel=>exact ⟨j+1,d+1,by go_num,by omega,HT,rfl⟩
        case measure=>simp [intOf]; omega
      ·have HF:=zH (HTN.out g)
       have f1:(y==y')=false:=by simpa using g
       clear HTN HTK htk
       go_upto_region 13 with fail
       go_region_law fail
       all_goals
        go_wp2_with fail
        go_ret
        exact ⟨by rw [HF.out]; rfl,HWD.out (d+1)⟩
     ·have dltj:decide ((j:Int) < (m:Int))=false:=by simp; omega
      have HWJ:Hid (Below w0.heap.size w0 (w5.drewN d)):=below_drewN HW5.out d
      have hnm:nm=nm':=by
       have h1:=htk.out
       rw [List.take_of_length_le (by rw [HM.out]; omega),List.take_of_length_le (by rw [HM'.out]; omega)] at h1
       exact h1
      have HAC:=zH (HAB2.out (by trivial) (by trivial) (by trivial) hnm HSB.out)
      clear y3 z3 htk hnm
      go_wp2_with fail
      go_roundw
      case rel=>exact ⟨i+1,_,r,_,r',by go_num,by omega,HNX,HNY,HAC,HWJ⟩
      case measure=>simp [intOf]; omega
   ·have dlt:decide ((i:Int) < (n:Int))=false:=by simp; omega
    have HT:Hid (Z=true):=by
     have hR:R=.nil:=by
      cases R with
      | nil=>rfl
      | cons h k r=>have h1:=hA.out.1; have h2:=HL.out; rw [h1,Fo.app_len,hA.out.2] at h2; simp only [Fo.len] at h2; omega
     have hS:S=.nil:=by
      cases S with
      | nil=>rfl
      | cons h k r=>have h1:=hB.out.1; have h2:=HLG.out; rw [h1,Fo.app_len,hB.out.2] at h2; simp only [Fo.len] at h2; omega
     show Z=true
     rw [← HZ.out,hA.out.1,hB.out.1,hR,hS,sameF_appL _ _ _ _ hAB.out]
     rfl
    clear hA hB hAB
    go_wp2_with fail
    go_ret
    exact ⟨by rw [HT.out]; rfl,hbw.out⟩
theorem rsame_any (F G:Fo) (v1 v2:Value) (w:World) (h1:FRow w v1 F) (h2:FRow w v2 G):
  Calls Tryz.prog 12 #[v1,v2] w fun e w'=>e=.returned (.bool (Fo.sameF F G))∧Below w.heap.size w w':=rsame_all _ F G v1 v2 w (Nat.lt_succ_self _) h1 h2
open Go.RowKit

theorem len_le_size:∀F:Fo,F.len≤F.size:=by
 intro F
 induction F with
 | nil=>exact Nat.le_refl _
 | cons h k r _ ih=>simp only [Fo.len,Fo.size]; omega
theorem FCl.join {w:World}:∀(F G:Fo) (xs ys:List Value),FCl w xs F→FCl w ys G→FCl w (xs++ys) (F.app G):=by
 intro F
 induction F with
 | nil=>intro G xs ys h h2; rw [show xs=[] from h]; exact h2
 | cons h k r _ ih=>
  rintro G xs ys ⟨T,zs,h1,h2,h3⟩ h4
  exact ⟨T,zs++ys,by rw [h1,List.append_assoc],h2,ih G zs ys h3 h4⟩
def setP (a:Int):Nat→Fo→Fo
 | _,.nil=>.nil
 | 0,.cons h k r=>.cons ⟨h.kind,h.text,h.num,h.names,a⟩ k r
 | i+1,.cons h k r=>.cons h k (setP a i r)
theorem setP_len (a:Int):∀(F:Fo) (i:Nat),(setP a i F).len=F.len:=by
 intro F
 induction F with
 | nil=>intro i; cases i <;> rfl
 | cons h k r _ ih=>intro i; cases i with
  | zero=>rfl
  | succ i=>simp only [setP,Fo.len,ih]
theorem setP_size (a:Int):∀(F:Fo) (i:Nat),(setP a i F).size=F.size:=by
 intro F
 induction F with
 | nil=>intro i; cases i <;> rfl
 | cons h k r _ ih=>intro i; cases i with
  | zero=>rfl
  | succ i=>simp only [setP,Fo.size,ih]
theorem setP_same (a:Int):∀(F G:Fo) (i:Nat),Fo.sameF F G=true→Fo.sameF F (setP a i G)=true:=by
 intro F
 induction F with
 | nil=>intro G i h; cases G with
  | nil=>cases i <;> rfl
  | cons _ _ _=>simp [Fo.sameF] at h
 | cons h k r _ ih=>intro G i hs; cases G with
  | nil=>simp [Fo.sameF] at hs
  | cons h' k' r'=>
   cases i with
   | zero=>exact hs
   | succ i=>
    simp only [Fo.sameF,Bool.and_eq_true] at hs
    simp only [setP,Fo.sameF,Bool.and_eq_true]
    exact ⟨hs.1,ih r' i hs.2⟩
theorem ndv_setP {w:World} {T:Array Value} {h:Hd} {k:Fo} (hT:NdV w T (h,k)) (a:Int):NdV w (T.setIfInBounds 5 (.int .i64 a)) (⟨h.kind,h.text,h.num,h.names,a⟩,k):=by
 obtain ⟨xn,cn,xk,ck,rfl,h2,h3⟩:=hT
 exact ⟨xn,cn,xk,ck,rfl,h2,h3⟩
theorem FCl.setP {w:World} (a:Int):∀(F:Fo) (i:Nat) (xs:List Value),FCl w xs F→FCl w (xs.set (i*6+5) (.int .i64 a)) (setP a i F):=by
 intro F
 induction F with
 | nil=>intro i xs h; rw [show xs=[] from h]; cases i <;> rfl
 | cons h k r _ ih=>
  rintro i xs ⟨T,ys,h1,h2,h3⟩
  have hsz:=h2.size
  subst h1
  cases i with
  | zero=>
   refine ⟨T.setIfInBounds 5 (.int .i64 a),ys,?_,ndv_setP h2 a,h3⟩
   rw [Nat.zero_mul,Nat.zero_add,List.set_append_left _ _ (by simp [hsz])]
   simp
  | succ i=>
   refine ⟨T,_,?_,h2,ih i ys h3⟩
   rw [show (i+1)*6+5=6+(i*6+5) by omega,List.set_append_right _ _ (by simp [hsz])]
   simp only [Array.length_toList,hsz]
   rw [show 6+(i*6+5) - 6=i*6+5 by omega]
theorem KRow.setP {w:World} {base g n cap:Nat} {F:Fo} (h:KRow (fun _=>true) w base (.slice (some ⟨g,0,none⟩) n cap) F) (a:Int) (i:Nat):
  KRow (fun _=>true) (w.setCell ⟨g,i*6+5,none⟩ (.int .i64 a)) base (.slice (some ⟨g,0,none⟩) n cap) (setP a i F):=by
 obtain ⟨x,c,e1⟩:=h.shape
 injection e1 with _ e2
 subst e2
 obtain ⟨xs,h1,h2,-⟩:=h
 obtain ⟨h3,h4⟩:=World.ownsRow.stored h1 (i*6+5) (.int .i64 a)
 refine ⟨_,by rw [setP_len]; exact h3,FCl.sub ?_ _ _ (FCl.setP a F i xs h2),fun _ _=>rfl⟩
 refine MSub.csub fun k hk hS=>⟨hS,h4.block k hk ?_⟩
 simp only [Bool.true_and,decide_eq_true_eq] at hS
 exact fun e=>hS e.symm
theorem KRow.setP_below {w0 w:World} {base g n cap:Nat} {F:Fo} (h:KRow (fun _=>true) w base (.slice (some ⟨g,0,none⟩) n cap) F) (hb:Below base w0 w) (a:Int) (i:Nat):Below base w0 (w.setCell ⟨g,i*6+5,none⟩ (.int .i64 a)):=by
 obtain ⟨xs,h1,-⟩:=h
 refine hb.setCell ?_ _
 rcases h1.2 with ⟨h',_⟩ | ⟨g',cap',cur,h',hbs,_⟩
 ·simp at h'
 ·simp only [Value.slice.injEq,Option.some.injEq,Addr.mk.injEq,and_true] at h'
  rw [h'.1]
  exact hbs
section
variable {P:Program}
theorem wpList_appF {ops:Array Oper} {rest:List Oper} {o:Oper} {a:Act} {Q:Exit→Act→World→Prop} {t:TypeId} {bytes:Nat} {z:Value} {s xx:Operand}
  (hE:Elem P t 31 z 6 bytes) {w:World} {base:Nat} {A F:Fo} {n m c:Nat} {v:Value} {x:Option Addr} (hv:KRow (fun _=>true) w base v A) (hn:A.len=n)
  (hf:FRow (maskW (fun k=>decide (v.ownBlock≠some k)) w) (.slice x m c) F) (hm:0 < m) (hbase:base≤w.heap.size)
  (hgd:o.guard=none) (ho:o.op=.call { callee:=.builtin .append,args:=#[s,xx],argTypes:=#[t,t] }) (hs:a.eval s=v) (hx:a.eval xx=.slice x m c)
  (hlen:(n+m)*bytes≤140737488355328) (h63:n+m≤maxLen)
  (h:∀r cap w',KRow (fun _=>true) w' base (.slice (some ⟨r,0,none⟩) (n+m) cap) (A.app F)→w.grownBy w' v.ownBlock→(v.ownBlock=some r∨r=w.heap.size)→wpList P ops Q rest (a.put o.dst (.slice (some ⟨r,0,none⟩) (n+m) cap)) w'):
  wpList P ops Q (o::rest) a w:=by
 obtain ⟨ht,⟨i,hi,hz,hsz,hby⟩,hzs,hp⟩:=hE
 obtain ⟨ys,hown,hcl,-⟩:=hv
 rw [hn] at hown
 obtain ⟨x',c',e1,hc1,hc2,-,h5⟩:=hf
 injection e1 with e2 e3 e4
 subst e2 e4
 rw [e3] at hx hm hlen h h63
 clear e3
 obtain ⟨b,off,rfl,hat⟩:=h5 (by omega)
 obtain ⟨xs,g1,g2,g3,g4⟩:=hat.cells
 refine wpList_append_lies w hgd s xx t ho base 31 i z 6 bytes ht hi hz hsz hby hzs hp v n ys hs hown ⟨b,off,none⟩ F.len c xs hx g1 (fun j u hu=>by rw [Addr.add_lit]; exact unmask _ _ _ _ _ (g3 j u hu)) g4 hm h63 hlen hbase w.heap.size rfl ?_
 intro r cap w' h1 h2 h3 _
 have hlA:(A.app F).len=n+F.len:=by rw [Fo.app_len,hn]
 refine h r cap w' ⟨ys++xs,by rw [hlA]; exact h1,?_,fun _ _=>rfl⟩ h2 h3
 have hcs:CSub (maskW (fun k=>decide (v.ownBlock≠some k)) w) (maskW (fun k=>decide ((.slice (some ⟨r,0,none⟩) (n+F.len) cap:Value).ownBlock≠some k)) w'):=by
  refine MSub.csub fun k hk hS=>?_
  simp only [decide_eq_true_eq] at hS
  refine ⟨?_,h2.block k hk (Ne.symm hS)⟩
  simp only [Value.ownBlock,ne_eq,Option.some.injEq,decide_eq_true_eq]
  rintro rfl
  rcases h3 with h4 | h4
  ·exact hS h4
  ·omega
 exact FCl.join A F ys xs (FCl.sub hcs _ _ (by simpa using hcl)) (FCl.sub hcs _ _ g2)
theorem wpList_appG {ops:Array Oper} {rest:List Oper} {o:Oper} {a:Act} {Q:Exit→Act→World→Prop} {t:TypeId} {bytes:Nat} {z:Value} {s xx:Operand}
  (hE:Elem P t 31 z 6 bytes) {w:World} {base:Nat} {A F:Fo} {n m c:Nat} {v:Value} {x:Option Addr} (hv:KRow (fun _=>true) w base v A) (hn:A.len=n)
  (hf:FRow (maskW (fun k=>decide (v.ownBlock≠some k)) w) (.slice x m c) F) (hm:0 < m) (hbase:base≤w.heap.size)
  (hw:Region.wanted o (yielded ops a.tmps)=true) (ho:o.op=.call { callee:=.builtin .append,args:=#[s,xx],argTypes:=#[t,t] }) (hs:a.eval s=v) (hx:a.eval xx=.slice x m c)
  (hlen:(n+m)*bytes≤140737488355328) (h63:n+m≤maxLen)
  (h:∀r cap w',KRow (fun _=>true) w' base (.slice (some ⟨r,0,none⟩) (n+m) cap) (A.app F)→w.grownBy w' v.ownBlock→(v.ownBlock=some r∨r=w.heap.size)→wpList P ops Q rest (a.put o.dst (.slice (some ⟨r,0,none⟩) (n+m) cap)) w'):
  wpList P ops Q (o::rest) a w:=by
 obtain ⟨ht,⟨i,hi,hz,hsz,hby⟩,hzs,hp⟩:=hE
 obtain ⟨ys,hown,hcl,-⟩:=hv
 rw [hn] at hown
 obtain ⟨x',c',e1,hc1,hc2,-,h5⟩:=hf
 injection e1 with e2 e3 e4
 subst e2 e4
 rw [e3] at hx hm hlen h h63
 clear e3
 obtain ⟨b,off,rfl,hat⟩:=h5 (by omega)
 obtain ⟨xs,g1,g2,g3,g4⟩:=hat.cells
 refine wpList_step fun K hK=>?_
 rw [if_pos hw]
 refine wp_append_lies w s xx t ho base 31 i z 6 bytes ht hi hz hsz hby hzs hp v n ys hs hown ⟨b,off,none⟩ F.len c xs hx g1 (fun j u hu=>by rw [Addr.add_lit]; exact unmask _ _ _ _ _ (g3 j u hu)) g4 hm h63 hlen hbase w.heap.size rfl ?_
 intro r cap w' h1 h2 h3 _
 have hlA:(A.app F).len=n+F.len:=by rw [Fo.app_len,hn]
 refine hK _ _ (h r cap w' ⟨ys++xs,by rw [hlA]; exact h1,?_,fun _ _=>rfl⟩ h2 h3)
 have hcs:CSub (maskW (fun k=>decide (v.ownBlock≠some k)) w) (maskW (fun k=>decide ((.slice (some ⟨r,0,none⟩) (n+F.len) cap:Value).ownBlock≠some k)) w'):=by
  refine MSub.csub fun k hk hS=>?_
  simp only [decide_eq_true_eq] at hS
  refine ⟨?_,h2.block k hk (Ne.symm hS)⟩
  simp only [Value.ownBlock,ne_eq,Option.some.injEq,decide_eq_true_eq]
  rintro rfl
  rcases h3 with h4 | h4
  ·exact hS h4
  ·omega
 exact FCl.join A F ys xs (FCl.sub hcs _ _ (by simpa using hcl)) (FCl.sub hcs _ _ g2)
end
end Go.Proofs.YtbaidkefobhipaaGreatDoor
