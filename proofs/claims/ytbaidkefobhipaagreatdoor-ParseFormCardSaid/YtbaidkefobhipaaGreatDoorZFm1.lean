/-
  Walk: ParseForm.
-/
import Derived.Test.YtbaidkefobhipaaGreatDoorZS32
import Derived.Test.YtbaidkefobhipaaGreatDoorZS42
namespace Go.Proofs.YtbaidkefobhipaaGreatDoor
set_option maxHeartbeats 16000000
set_option maxRecDepth 100000
open Go.RowKit

theorem lawForm (s:ByteArray) (W:World) (hd:Ldd W) (hs:s.size≤maxLen):Calls Tryz.prog 6 #[.string s] W fun e W'=>e=.returned (.bool true)∧Below W.heap.size W W':=by
 have HPR:=zH (prog_run s W hs)
 have HAW:=zH (fun w' (hb:Below W.heap.size W w')=>hd.awake hb)
 have HTB:=zH (fun w' (hb:Below W.heap.size W w')=>tab_below hd.tab hb)
 clear hd hs
 go_enter Tryz.func6,Tryz.ntmps6
 go_wp2_with fail
 refine HPR.out.mono ?_
 rintro e w1 ⟨h,hb⟩
 have HB1:=zH hb
 clear HPR hb
 have HA1:=zH (HAW.out w1 HB1.out)
 cases hp:proP s.data.toList with
 | error x=>
  have HX:=zH (proP_bad hp)
  rw [hp] at h
  dsimp only at h
  subst h
  clear hp
  obtain ⟨x1,x2⟩:=x
  have e1:((x2:Int) != 0)=true:=by have:=HX.out.1; simp at this ⊢; omega
  have e2:(x1:Int)≤(s.size:Int):=by have:=HX.out.2; rw [Array.length_toList] at this; exact Int.ofNat_le.2 this
  have e3:decide ((x1:Int)≤(s.size:Int))=true:=by simpa using e2
  dsimp only
  go_wp2_with fail
  refine HA1.out.mono ?_
  rintro e w2 ⟨rfl,hb⟩
  have HB2:=zH (HB1.out.trans (hb.mono HB1.out.size))
  have HA2:=zH (HAW.out w2 HB2.out)
  clear hb HA1
  go_wp2_with fail
  refine HA2.out.mono ?_
  rintro e w3 ⟨rfl,hb⟩
  have HB3:=zH (HB2.out.trans (hb.mono HB2.out.size))
  clear hb HA2
  go_wp2_with fail
  go_ret
  exact ⟨by simp,HB3.out⟩
 | ok F=>
  have HFB:=zH (fob_of hp)
  have HRT:=zH (proP_ok hp).1
  have HTX:=zH (tx_of hp)
  rw [hp] at h
  obtain ⟨x,c,rfl,hr⟩:=h
  clear hp
  go_wp2_with fail
  refine HA1.out.mono ?_
  rintro e w2 ⟨rfl,hb⟩
  have HB2:=zH (HB1.out.trans (hb.mono HB1.out.size))
  have HR2:=zH (hr.below hb)
  clear hb HA1 hr HAW
  have HPT:=zH (print_any F _ w2 HR2.out HFB.out HTX.out nz_all (HTB.out w2 HB2.out))
  unfold prtV at HPT
  cases hq:prtP F with
  | error k=>
   have HK:=zH (prt_err HRT.out hq)
   rw [hq] at HPT
   dsimp only at HPT
   clear hq
   go_wp2_with fail
   refine HPT.out.mono ?_
   rintro e w3 ⟨rfl,hb⟩
   have HB3:=zH (HB2.out.trans (hb.mono HB2.out.size))
   clear hb HPT HR2
   rcases HK.out with rfl | rfl
   ·go_wp2_with fail
    go_ret
    exact ⟨by simp,HB3.out⟩
   ·go_wp2_with fail
    go_ret
    exact ⟨by simp,HB3.out⟩
  | ok t=>
   obtain ⟨G,hg⟩:=(prt_ok hq).2.2
   have HT:=zH (prt_ok hq).2.1
   rw [hq] at HPT
   dsimp only at HPT
   clear hq
   have HG1:=zH hg.1
   have HG2:=zH hg.2.1
   have HG3:=zH hg.2.2
   clear hg
   go_wp2_with fail
   refine HPT.out.mono ?_
   rintro e w3 ⟨rfl,hb⟩
   have HB3:=zH (HB2.out.trans (hb.mono HB2.out.size))
   have HR3:=zH (HR2.out.below hb)
   clear hb HPT HR2
   obtain ⟨u,hu⟩:∃u:ByteArray,(⟨t.toArray⟩:ByteArray)=u:=⟨_,rfl⟩
   have hut:u.data.toList=t:=by rw [← hu]
   have husz:u.size≤16384:=by have:=HT.out; rw [← hut] at this; simpa using this
   have HU:=zH hu
   rw [hu]
   have HP4:=zH (prog_ok (s:=u) (F:=G) (by rw [hut]; exact HG1.out) w3 (Nat.le_trans husz (by decide)))
   clear hu hut husz
   go_wp2_with fail
   refine HP4.out.mono ?_
   rintro e w4 ⟨⟨x4,c4,rfl,hr4⟩,hb⟩
   have HB4:=zH (HB3.out.trans (hb.mono HB3.out.size))
   have HR4:=zH (HR3.out.below hb)
   have HG4:=zH hr4
   clear hb HP4 HR3 hr4
   have HPU:=zH (print_any G _ w4 HG4.out (fob_of HG1.out) (tx_of HG1.out) nz_all (HTB.out w4 HB4.out))
   unfold prtV at HPU
   rw [HG3.out] at HPU
   dsimp only at HPU
   rw [HU.out] at HPU
   go_wp2_with fail
   refine HPU.out.mono ?_
   rintro e w5 ⟨rfl,hb⟩
   have HB5:=zH (HB4.out.trans (hb.mono HB4.out.size))
   have HR5:=zH (HR4.out.below hb)
   have HG5:=zH (HG4.out.below hb)
   clear hb HPU HR4 HG4
   have HSM:=zH (same_any F G _ _ w5 HR5.out HG5.out)
   rw [HG2.out] at HSM
   go_wp2_with fail
   refine HSM.out.mono ?_
   rintro e w6 ⟨rfl,hb⟩
   have HB6:=zH (HB5.out.trans (hb.mono HB5.out.size))
   clear hb HSM
   go_wp2_with fail
   go_ret
   exact ⟨by simp,HB6.out⟩
end Go.Proofs.YtbaidkefobhipaaGreatDoor
