/-
  Walk: ParseChecks.
-/
import Derived.Test.YtbaidkefobhipaaGreatDoorZS32
import Derived.Test.YtbaidkefobhipaaGreatDoorZOp
import Derived.Test.YtbaidkefobhipaaGreatDoorZS54
namespace Go.Proofs.YtbaidkefobhipaaGreatDoor
set_option maxHeartbeats 8000000
set_option maxRecDepth 100000
open Go.RowKit

theorem lawChecks (v:Value) (W:World) (hd:Ldd W) (hv:FArg W v):Calls Tryz.prog 3 #[v] W fun e W'=>e=.returned (.bool true)∧Below W.heap.size W W':=by
 obtain ⟨F,hr,hw⟩:=hv
 have HAW:=zH (fun w' (hb:Below W.heap.size W w')=>hd.awake hb)
 have hF:=FoB_wt F 1048576 hw (Nat.le_refl _)
 have HC1:=zH (check_any F v W hr hF (by have:=size_wt F; unfold Mx; omega))
 have HC2:=zH (fun w' (hb:Below W.heap.size W w')=>rcheck_any F v w' (hr.below hb) hF (by omega))
 obtain ⟨x,c,rfl,-⟩:=id hr
 clear hd hr hw hF;unfold chkV at HC1 HC2;obtain ⟨⟨a,b⟩,hp⟩:∃p,chkL F=p:=⟨_,rfl⟩;rw [hp] at HC1 HC2;dsimp only at HC1 HC2;clear hp;have e1:(a==a)=true:=by simp
 have e2:((b:Int)==(b:Int))=true:=by simp
 go_enter Tryz.func3,Tryz.ntmps3
 go_wp2_with fail;refine HC1.out.mono ?_;rintro e w1 ⟨rfl,hb⟩;have HB1:=zH hb;have HC3:=zH (HC2.out w1 HB1.out);clear hb HC1 HC2;go_wp2_with fail;refine HC3.out.mono ?_;rintro e w2 ⟨rfl,hb⟩;have HB2:=zH (HB1.out.trans (hb.mono HB1.out.size));have HA2:=zH (HAW.out w2 HB2.out);clear hb HC3;go_wp2_with fail;refine HA2.out.mono ?_;rintro e w3 ⟨rfl,hb⟩
 have HB3:=zH (HB2.out.trans (hb.mono HB2.out.size))
 clear hb HA2;go_wp2_with fail;go_ret;exact ⟨by simp,HB3.out⟩
end Go.Proofs.YtbaidkefobhipaaGreatDoor
