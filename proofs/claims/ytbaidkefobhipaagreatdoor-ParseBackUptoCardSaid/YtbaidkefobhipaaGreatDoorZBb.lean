/-
  Walk: ParseBack.
-/
import Derived.Test.YtbaidkefobhipaaGreatDoorZS32
import Derived.Test.YtbaidkefobhipaaGreatDoorZS42
import Derived.Test.YtbaidkefobhipaaGreatDoorZOp
namespace Go.Proofs.YtbaidkefobhipaaGreatDoor
set_option maxHeartbeats 16000000
set_option maxRecDepth 100000
open Go.RowKit

theorem prt_nz {F:Fo} {k:Nat} (h:prtP F=.error k):k≠0:=by
 by_cases hr:rt .st F=true
 ·rcases prt_err hr h with rfl | rfl <;> decide
 ·unfold prtP at h
  rw [if_pos (by simpa using hr)] at h
  injection h with h
  omega
theorem print_bad (F:Fo) (v:Value) (w:World) (hr:FRow w v F) (hF:FoB F) (hn:rt .st F=false):Calls Tryz.prog 14 #[v] w fun e w'=>e=.returned (prtV F)∧Below w.heap.size w w':=by
 have HRG:=zH (right_any F v _ hr hF)
 rw [hn] at HRG
 obtain ⟨x,c,rfl,-⟩:=id hr
 have hv:prtV F=.tuple #[.string ⟨#[]⟩,.int .i64 1]:=by unfold prtV prtP; rw [if_pos hn]; rfl
 rw [hv]
 clear hr hF hn hv
 go_enter Tryz.func14,Tryz.ntmps14
 go_wp2_with fail
 refine HRG.out.mono ?_
 rintro e w1 ⟨rfl,hb⟩
 have HB1:=zH hb
 clear hb HRG
 go_wp2_with fail
 go_ret2
 exact ⟨rfl,HB1.out⟩
theorem print_u (F:Fo) (v:Value) (w:World) (hr:FRow w v F) (hF:FoB F) (hln:(txF F).length≤Mw∨rt .st F=false) (hnz:∀s x,proP s=.error x→x.2≠0) (htab:Lib.TabIs Tryz.prog w "internal/strconv.uint64pow10" .u64 Lib.pow10Tab):
  Calls Tryz.prog 14 #[v] w fun e w'=>e=.returned (prtV F)∧Below w.heap.size w w':=by
 rcases hln with h | h
 ·exact print_any F v w hr hF h hnz htab
 ·exact print_bad F v w hr hF h
theorem lawBack (v:Value) (W:World) (hd:Ldd W) (hv:FArg W v):Calls Tryz.prog 5 #[v] W fun e W'=>e=.returned (.bool true)∧Below W.heap.size W W':=by
 obtain ⟨F,hr,hw⟩:=hv
 have HAW:=zH (fun w' (hb:Below W.heap.size W w')=>hd.awake hb)
 have HR:=zH hr
 have hlen:(txF F).length≤Mw∨rt .st F=false:=by
  by_cases h:rt .st F=true
  ·exact Or.inl (txF_small h hw)
  ·exact Or.inr (by simpa using h)
 have HPT:=zH (print_u F _ W hr (FoB_wt F 1048576 hw (Nat.le_refl _)) hlen nz_all hd.tab)
 obtain ⟨x,c,rfl,-⟩:=id hr
 clear hd hr hlen hw
 unfold prtV at HPT
 go_enter Tryz.func5,Tryz.ntmps5
 cases hq:prtP F with
 | error k=>
  have HK:=zH (prt_nz hq)
  rw [hq] at HPT
  dsimp only at HPT
  clear hq
  have e1:((k:Int) != 0)=true:=by have:=HK.out; simp; omega
  go_wp2_with fail
  refine HPT.out.mono ?_
  rintro e w1 ⟨rfl,hb⟩
  have HB1:=zH hb
  have HA1:=zH (HAW.out w1 HB1.out)
  clear hb HPT
  go_wp2_with fail
  refine HA1.out.mono ?_
  rintro e w2 ⟨rfl,hb⟩
  have HB2:=zH (HB1.out.trans (hb.mono HB1.out.size))
  have HA2:=zH (HAW.out w2 HB2.out)
  clear hb HA1
  go_wp2_with fail
  refine HA2.out.mono ?_
  rintro e w3 ⟨rfl,hb⟩
  have HB3:=zH (HB2.out.trans (hb.mono HB2.out.size))
  clear hb HA2
  go_wp2_with fail
  go_ret
  exact ⟨by simp,HB3.out⟩
 | ok t=>
  obtain ⟨G,hg⟩:=(prt_ok hq).2.2
  have HT:=zH (prt_ok hq).2.1
  rw [hq] at HPT
  dsimp only at HPT
  clear hq
  have HG1:=zH hg.1
  have HG2:=zH hg.2.1
  clear hg
  go_wp2_with fail
  refine HPT.out.mono ?_
  rintro e w1 ⟨rfl,hb⟩
  have HB1:=zH hb
  have HA1:=zH (HAW.out w1 HB1.out)
  clear hb HPT
  obtain ⟨u,hu⟩:∃u:ByteArray,(⟨t.toArray⟩:ByteArray)=u:=⟨_,rfl⟩
  have hut:u.data.toList=t:=by rw [← hu]
  have husz:u.size≤16384:=by have:=HT.out; rw [← hut] at this; simpa using this
  rw [hu]
  have HP4:=zH (fun w=>prog_ok (s:=u) (F:=G) (by rw [hut]; exact HG1.out) w (Nat.le_trans husz (by decide)))
  clear hu hut husz
  go_wp2_with fail
  refine HA1.out.mono ?_
  rintro e w2 ⟨rfl,hb⟩
  have HB2:=zH (HB1.out.trans (hb.mono HB1.out.size))
  clear hb HA1 HAW
  go_wp2_with fail
  refine (HP4.out w2).mono ?_
  rintro e w4 ⟨⟨x4,c4,rfl,hr4⟩,hb⟩
  have HB4:=zH (HB2.out.trans (hb.mono HB2.out.size))
  have HR4:=zH (HR.out.below HB4.out)
  have HG4:=zH hr4
  clear hb HP4 hr4
  have HSM:=zH (same_any F G _ _ w4 HR4.out HG4.out)
  rw [HG2.out] at HSM
  go_wp2_with fail
  refine HSM.out.mono ?_
  rintro e w6 ⟨rfl,hb⟩
  have HB6:=zH (HB4.out.trans (hb.mono HB4.out.size))
  clear hb HSM
  go_wp2_with fail
  go_ret
  exact ⟨by simp,HB6.out⟩
end Go.Proofs.YtbaidkefobhipaaGreatDoor
