/-
  Walk: parse.Program.
-/
import Derived.Test.YtbaidkefobhipaaGreatDoorZS19
import Derived.Test.YtbaidkefobhipaaGreatDoorZS6
namespace Go.Proofs.YtbaidkefobhipaaGreatDoor
set_option maxHeartbeats 4000000
set_option maxRecDepth 100000
open Go.RowKit

def ProOk (r:Except (Nat×Nat) Fo) (B:Nat) (e:Ending) (w:World):Prop:=
 match r with
 | .error (p,k)=>e=.returned (.tuple #[.slice none 0 0,.int .i64 (p:Nat),.int .i64 (k:Nat)])
 | .ok F=>∃v,e=.returned (.tuple #[v,.int .i64 0,.int .i64 0])∧FRow (maskW (frS B) w) v F

def proD (PL:Nat):Deferred:={ target:=.fn (.func 31) #[.pointer (some ⟨PL,0,none⟩),.pointer (some ⟨PL+1,0,none⟩),.pointer (some ⟨PL+1+1,0,none⟩)],args:=#[] }
theorem pro_results {tm:Array Value} {w:World} {PL:Nat} {v:Value} {a e:Int} (h2:tm[2]?=some (.pointer (some ⟨PL,0,none⟩))) (h3:tm[3]?=some (.pointer (some ⟨PL+1,0,none⟩))) (h4:tm[4]?=some (.pointer (some ⟨PL+1+1,0,none⟩)))
  (hl:Blk w PL 22 #[v]) (ha:Blk w (PL+1) 3 #[.int .i64 a]) (he:Blk w (PL+1+1) 23 #[.int .i64 e]) (hv:∃x n c,v=.slice x n c):
  (results Tryz.f15 tm).run Tryz.prog w=.ok (.tuple #[v,.int .i64 a,.int .i64 e]) w:=by
 have c1:w.cell? ⟨PL,0,none⟩=some v:=hl.cell 0
 have c2:w.cell? ⟨PL+1,0,none⟩=some (.int .i64 a):=ha.cell 0
 have c3:w.cell? ⟨PL+1+1,0,none⟩=some (.int .i64 e):=he.cell 0
 obtain ⟨x,n,c,rfl⟩:=hv
 simp [results,Tryz.results15,go_sem,h2,h3,h4,c1,c2,c3]
theorem pro_ret {R:Ending→World→Prop} {tm:Array Value} {w:World} {PL:Nat} {v:Value} {a e:Int} (h2:tm[2]?=some (.pointer (some ⟨PL,0,none⟩))) (h3:tm[3]?=some (.pointer (some ⟨PL+1,0,none⟩))) (h4:tm[4]?=some (.pointer (some ⟨PL+1+1,0,none⟩)))
  (hl:Blk w PL 22 #[v]) (ha:Blk w (PL+1) 3 #[.int .i64 a]) (he:Blk w (PL+1+1) 23 #[.int .i64 e]) (hv:∃x n c,v=.slice x n c)
  (h:∀w',Below w.heap.size w w'→R (.returned (.tuple #[v,.int .i64 a,.int .i64 e])) w'):
  bodyPostD Tryz.prog Tryz.f15 R .ret { tmps:=tm,defers:=[proD PL] } w:=by
 refine leaves_cons (f:=31) (args:=#[.pointer (some ⟨PL,0,none⟩),.pointer (some ⟨PL+1,0,none⟩),.pointer (some ⟨PL+1+1,0,none⟩)]) (by simp) (by simp [go_sem]) ?_
 refine (pidle PL (PL+1) (PL+1+1) w).mono ?_
 rintro e' u' w' ⟨rfl,rfl,hb⟩;exact ⟨_,pro_results h2 h3 h4 (Blk.below hb hl hl.lt) (Blk.below hb ha ha.lt) (Blk.below hb he he.lt) hv,h w' hb⟩
theorem pro_panic {R:Ending→World→Prop} {tm:Array Value} {w:World} {PL x y:Nat} {v:Value} {a e:Int} (h2:tm[2]?=some (.pointer (some ⟨PL,0,none⟩))) (h3:tm[3]?=some (.pointer (some ⟨PL+1,0,none⟩))) (h4:tm[4]?=some (.pointer (some ⟨PL+1+1,0,none⟩)))
  (hl:Blk w PL 22 #[v]) (ha:Blk w (PL+1) 3 #[.int .i64 a]) (he:Blk w (PL+1+1) 23 #[.int .i64 e])
  (h:∀w',But3 PL (PL+1) (PL+1+1) w w'→R (.returned (.tuple #[.slice none 0 0,.int .i64 (x:Nat),.int .i64 (y:Nat)])) w'):
  bodyPostD Tryz.prog Tryz.f15 R (.panic (failC x y)) { tmps:=tm,defers:=[proD PL] } w:=by
 refine leaves_cons (f:=31) (args:=#[.pointer (some ⟨PL,0,none⟩),.pointer (some ⟨PL+1,0,none⟩),.pointer (some ⟨PL+1+1,0,none⟩)]) (by simp) (by simp [go_sem]) ?_
 have hc:=pcatch PL (PL+1) (PL+1+1) v a e x y [] w hl ha he (by omega) (by omega) (by omega)
 rw [List.append_nil] at hc;refine hc.mono ?_;rintro e' u' w' ⟨rfl,rfl,h5,h6,h7,hb⟩;exact ⟨_,pro_results h2 h3 h4 h5 h6 h7 ⟨_,_,_,rfl⟩,h w' hb⟩

theorem leaves_tmps {fn:Func} {tm tm':Array Value} {R:Ending→World→Prop} (ht:∀w,(results fn tm').run Tryz.prog w=(results fn tm).run Tryz.prog w):∀(ds:List Deferred) (u:FrameMode) (w:World),Leaves Tryz.prog fn tm R ds u w→Leaves Tryz.prog fn tm' R ds u w:=by
 intro ds;induction ds with
 | nil=>
  intro u w h
  cases u with
  | run=>exact h
  | returning=>obtain ⟨v,h1,h2⟩:=h; exact ⟨v,(ht w).trans h1,h2⟩
  | panicking c=>exact h
 | cons d ds ih=>
  intro u w h;obtain ⟨h1,fv,cap,f,args,h2,h3,h4⟩:=h;refine ⟨h1,fv,cap,f,args,h2,h3,h4.mono fun e u' w' hh=>?_⟩
  cases e with
  | returned v=>exact ih _ _ hh
  | panicked c=>exact ih _ _ hh
  | outgrown=>exact hh
theorem post_put {R:Ending→World→Prop} {ch:List PanicEntry} {a:Act} {w:World} {d:Nat} {v:Value} (hd:4 < d) (h:bodyPostD Tryz.prog Tryz.f15 R (.panic ch) (a.put (some d) v) w):bodyPostD Tryz.prog Tryz.f15 R (.panic ch) a w:=by
 refine leaves_tmps (fun w=>?_) _ _ _ h
 have e2:(a.tmps.setIfInBounds d v)[2]?=a.tmps[2]?:=Array.getElem?_setIfInBounds_ne (by omega)
 have e3:(a.tmps.setIfInBounds d v)[3]?=a.tmps[3]?:=Array.getElem?_setIfInBounds_ne (by omega)
 have e4:(a.tmps.setIfInBounds d v)[4]?=a.tmps[4]?:=Array.getElem?_setIfInBounds_ne (by omega)
 simp [results,Tryz.results15,go_sem,Act.put,e2,e3,e4]
structure PSt (PL P a:Nat) (w wq:World) (l:List Tk) (v:Value) (acc:Fo):Prop where
 ps:PsW wq P l
 ll:Blk wq PL 22 #[v]
 la:Blk wq (PL+1) 3 #[.int .i64 0]
 le:Blk wq (PL+1+1) 23 #[.int .i64 0]
 bl:Below PL w wq
 kr:KRow (frS (P+1)) wq (P+1) v acc
theorem PSt.ext {PL P a:Nat} {w wq wz:World} {l:List Tk} {v:Value} {acc:Fo} (h:PSt PL P a w wq l v acc) (hb:Below wq.heap.size wq wz):PSt PL P a w wz l v acc:=
 ⟨h.ps.below hb,(hb.block _ h.ll.lt).trans h.ll,(hb.block _ h.la.lt).trans h.la,(hb.block _ h.le.lt).trans h.le,h.bl.trans (hb.mono (by have:=h.ll.lt; omega)),h.kr.keep fun k hk hS=>⟨hS,hb.block k hk⟩⟩
theorem PSt.but {PL P a:Nat} {w wq wz:World} {l l':List Tk} {v:Value} {acc:Fo} (h:PSt PL P a w wq l v acc) (hPP:PL+3≤P) (hb:But P wq wz) (hp:PsW wz P l'):PSt PL P a w wz l' v acc:=
 ⟨hp,hb.blk h.ll (by omega),hb.blk h.la (by omega),hb.blk h.le (by omega),h.bl.trans (hb.below (by have:=h.ll.lt; omega) (by omega)),h.kr.keep fun k hk hS=>⟨hS,hb.block k hk (by simp only [frS,decide_eq_true_eq] at hS; omega)⟩⟩
theorem PSt.drew {PL P a:Nat} {w wq:World} {l:List Tk} {v:Value} {acc:Fo} (h:PSt PL P a w wq l v acc):PSt PL P a w wq.drew l v acc:=
 ⟨h.ps.drew,h.ll,h.la,h.le,⟨h.bl.os,h.bl.tape,h.bl.output,h.bl.size,h.bl.block⟩,h.kr.keep fun _ _ hS=>⟨hS,rfl⟩⟩
theorem PSt.fail {PL P a:Nat} {w wq wz w':World} {l:List Tk} {v:Value} {acc:Fo} (h:PSt PL P a w wq l v acc) (hPP:PL+3≤P) (hb:But P wq wz) (hc:But3 PL (PL+1) (PL+1+1) wz w'):Below PL w w':=by
 have h1:=h.bl.trans (hb.below (B:=PL) (by have:=h.ll.lt; omega) (by omega))
 have h2:PL < wz.heap.size:=Nat.lt_of_lt_of_le h.ll.lt hb.size
 exact h1.trans ⟨hc.os,hc.tape,hc.output,hc.size,fun k hk=>hc.block k (by omega) (by omega) (by omega) (by omega)⟩

theorem PSt.last {PL P a n rA capA base:Nat} {w wq w11 wz:World} {l:List Tk} {v:Value} {acc:Fo} {x:Nd} {xs:List Value} {T:Array Value} (h:PSt PL P a w wq l v acc) (hPP:PL+3≤P) (hou:Out (frS (P+1)) wq w11) (hSr:frS (P+1) rA=true)
  (hmore:∀w2,w2.ownsRow base 31 6 (.slice (some ⟨rA,0,none⟩) n capA) n (xs++T.toList)→(∀k,k < w11.heap.size→k≠rA→frS (P+1) k=true→w2.heap[k]?=w11.heap[k]?)→KRow (frS (P+1)) w2 (P+1) (.slice (some ⟨rA,0,none⟩) n capA) (acc.app x.one))
  (hos:wz.os=w11.os) (ht:wz.tape=w11.tape) (hout:wz.output=w11.output) (hsz:w11.heap.size≤wz.heap.size) (hb:∀k,k < w11.heap.size→k≠rA→k≠PL→wz.heap[k]?=w11.heap[k]?)
  (hll:Blk wz PL 22 #[.slice (some ⟨rA,0,none⟩) n capA]) (how:wz.ownsRow base 31 6 (.slice (some ⟨rA,0,none⟩) n capA) n (xs++T.toList)):PSt PL P a w wz l (.slice (some ⟨rA,0,none⟩) n capA) (acc.app x.one):=by
 have hPq:=h.ps.lt
 simp only [frS,decide_eq_true_eq] at hSr;have key:∀k,k≤P→k≠PL→wz.heap[k]?=wq.heap[k]?:=fun k hk hne=>(hb k (by have:=hou.size; omega) (by omega) hne).trans (hou.block k (by omega) (by simp only [frS,decide_eq_false_iff_not]; omega))
 refine ⟨?_,hll,(key _ (by omega) (by omega)).trans h.la,(key _ (by omega) (by omega)).trans h.le,?_,hmore wz how fun k hk hne hS=>hb k hk hne (by simp only [frS,decide_eq_true_eq] at hS; omega)⟩
 ·obtain ⟨b,m,c,i,h1,h2,h3,h4,h5,h6,h7⟩:=h.ps
  obtain ⟨t,r,rfl⟩:=h6.cons
  have hne:b≠PL:=by
   rintro rfl;have hc:=h5.1;rw [h.ll.cell] at hc;match i with
   | 0=>have h8:=h5.2.1; rw [h.ll.cell] at h8; simp at h8
   | i+1=>rw [Array.getElem?_eq_none (by simp; omega)] at hc; cases hc
  refine ⟨b,m,c,i,(key P (Nat.le_refl _) (by omega)).trans h1,h2,h3,h4,?_,h6,h7⟩
  exact TkAt.keep _ _ (fun o=>by unfold World.cell?; rw [key b (by omega) hne]) _ h5
 ·exact h.bl.trans ⟨hos.trans hou.os,ht.trans hou.tape,hout.trans hou.output,Nat.le_trans hou.size hsz,fun k hk=>key k (by omega) (by omega)⟩

theorem program_any (s:ByteArray) (w:World) (hmax:s.size≤maxLen):
  Calls Tryz.prog 15 #[.string s] w fun e w'=>ProOk (proP s.data.toList) w.heap.size e w'∧Below w.heap.size w w':=by
 have hmf:∀(fn:Fn) (first cap:Array Value) (w:World),(Instr.makeFunc fn first cap).run Tryz.prog w=.ok (.func fn first cap) w:=fun _ _ _ _=>rfl
 obtain ⟨B,hB⟩:∃B,B=w.heap.size:=⟨_,rfl⟩
 have HB:=zH hB
 have hb1:Below w.heap.size w (w.alloc (.cells #[.slice none 0 0] 22)):=(Below.refl w.heap.size w).alloc (Nat.le_refl _) _
 have hb2:Below w.heap.size w ((w.alloc (.cells #[.slice none 0 0] 22)).alloc (.cells #[.int .i64 0] 3)):=hb1.alloc hb1.size _
 have hba:Below w.heap.size w (((w.alloc (.cells #[.slice none 0 0] 22)).alloc (.cells #[.int .i64 0] 3)).alloc (.cells #[.int .i64 0] 23)):=hb2.alloc hb2.size _
 have hl:=((Blk.new w 22 #[.slice none 0 0]).alloc (.cells #[.int .i64 0] 3)).alloc (.cells #[.int .i64 0] 23)
 have ha:=(Blk.new (w.alloc (.cells #[.slice none 0 0] 22)) 3 #[.int .i64 0]).alloc (.cells #[.int .i64 0] 23)
 have he:=Blk.new ((w.alloc (.cells #[.slice none 0 0] 22)).alloc (.cells #[.int .i64 0] 3)) 23 #[.int .i64 0]
 have s1:(w.alloc (.cells #[.slice none 0 0] 22)).heap.size=w.heap.size+1:=by simp
 have s2:((w.alloc (.cells #[.slice none 0 0] 22)).alloc (.cells #[.int .i64 0] 3)).heap.size=w.heap.size+1+1:=by simp
 have s3:(((w.alloc (.cells #[.slice none 0 0] 22)).alloc (.cells #[.int .i64 0] 3)).alloc (.cells #[.int .i64 0] 23)).heap.size=w.heap.size+3:=by simp
 rw [s1] at ha;rw [s2] at he;have HTO:=zH (tokens_any s (((w.alloc (.cells #[.slice none 0 0] 22)).alloc (.cells #[.int .i64 0] 3)).alloc (.cells #[.int .i64 0] 23)) hmax);have HS3:=zH s3;have HBA:=zH hba;have HL:=zH hl;have HA:=zH ha;have HE:=zH he;clear hb1 hb2 hba hl ha he s1 s2 s3 hB;obtain ⟨RT,hRT⟩:∃r,toksP s.data.toList=r:=⟨_,rfl⟩;obtain ⟨R,hR⟩:∃r,proP s.data.toList=r:=⟨_,rfl⟩;rw [hR]
 rw [hRT] at HTO;have HRE:Hid (∀x,RT=.error x→R=.error x):=fun x hx=>by rw [← hR,proP,hRT,hx]
 have HRO:Hid (∀l,RT=.ok l→R=proL (sbP 64).1 l.length .nil l):=fun x hx=>by rw [← hR,proP,hRT,hx]
 have HRK:Hid (∀x,RT=.error x→x.2≠0):=fun x hx=>toksP_err (hRT.trans hx)
 have HRL:Hid (∀l,RT=.ok l→EndL l∧l.length≤4096):=fun x hx=>toksP_end (hRT.trans hx)
 clear hR hRT;go_enter_defers Tryz.func15,Tryz.ntmps15;go_wp2_with fail;generalize ((w.alloc (.cells #[.slice none 0 0] 22)).alloc (.cells #[.int .i64 0] 3)).alloc (.cells #[.int .i64 0] 23)=w0 at*;refine HTO.out.mono ?_;rintro e w1 ⟨htk,hb⟩;have HL1:=zH (Blk.below hb HL.out (by rw [HS3.out]; omega))
 have HA1:=zH (Blk.below hb HA.out (by rw [HS3.out]; omega))
 have HE1:=zH (Blk.below hb HE.out (by rw [HS3.out]; omega))
 have HB1:=zH (HBA.out.trans (hb.mono HBA.out.size))
 have HSZ:Hid (w.heap.size+3≤w1.heap.size):=by have h1:=hb.size; rw [HS3.out] at h1; exact h1
 rw [HS3.out] at htk;clear hb HL HA HE HBA HTO HS3;obtain ⟨PL,hPL⟩:∃n,w.heap.size=n:=⟨_,rfl⟩;have HPL:=zH hPL;rw [hPL] at HL1 HA1 HE1 HSZ htk ⊢;clear hPL HB;have ca:w1.cell? ⟨PL+1,0,none⟩=some (.int .i64 0):=HA1.out.cell 0;have ce:w1.cell? ⟨PL+1+1,0,none⟩=some (.int .i64 0):=HE1.out.cell 0;have fa:w1.frozen? ⟨PL+1,0,none⟩=false:=HA1.out.frozen 0
 have fe:w1.frozen? ⟨PL+1+1,0,none⟩=false:=HE1.out.frozen 0
 cases RT with
 | error x=>
  obtain ⟨p,k⟩:=x
  obtain rfl:=htk
  have hk0:(k:Int)≠0:=by have:=HRK.out _ rfl; simp at this; omega
  have hk1:((k:Int) != 0)=true:=by simp; omega
  clear hk0;have HRR:=zH (HRE.out _ rfl);clear HRE HRO HRK HRL;go_upto_region 4 with fail
  have HL2:=zH ((HL1.out.other (p:=⟨PL+1,0,none⟩) (by simp) (.int .i64 (p:Nat))).other (p:=⟨PL+1+1,0,none⟩) (by simp; omega) (.int .i64 (k:Nat)))
  have HA2:=zH ((HA1.out.put 0 (.int .i64 (p:Nat))).other (p:=⟨PL+1+1,0,none⟩) (by simp) (.int .i64 (k:Nat)))
  have HE2:=zH ((HE1.out.other (p:=⟨PL+1,0,none⟩) (by simp) (.int .i64 (p:Nat))).put 0 (.int .i64 (k:Nat)))
  have HB2:Hid (Below PL w ((w1.setCell ⟨PL+1,0,none⟩ (.int .i64 (p:Nat))).setCell ⟨PL+1+1,0,none⟩ (.int .i64 (k:Nat)))):=by
   have h1:=HB1.out; rw [HPL.out] at h1
   exact below_put (below_put h1 (p:=⟨PL+1,0,none⟩) (by simp) _) (p:=⟨PL+1+1,0,none⟩) (by simp; omega) _
  clear ca ce fa fe HL1 HA1 HE1 HB1;generalize (w1.setCell ⟨PL+1,0,none⟩ (.int .i64 (p:Nat))).setCell ⟨PL+1+1,0,none⟩ (.int .i64 (k:Nat))=w2 at*;have cl:w2.cell? ⟨PL,0,none⟩=some (.slice none 0 0):=HL2.out.cell 0;have ca:w2.cell? ⟨PL+1,0,none⟩=some (.int .i64 (p:Nat)):=HA2.out.cell 0;have ce:w2.cell? ⟨PL+1+1,0,none⟩=some (.int .i64 (k:Nat)):=HE2.out.cell 0
  have fl:w2.frozen? ⟨PL,0,none⟩=false:=HL2.out.frozen 0
  have fa:w2.frozen? ⟨PL+1,0,none⟩=false:=HA2.out.frozen 0
  have fe:w2.frozen? ⟨PL+1+1,0,none⟩=false:=HE2.out.frozen 0
  have c1:∀u,(w2.setCell ⟨PL,0,none⟩ u).cell? ⟨PL+1,0,none⟩=some (.int .i64 (p:Nat)):=fun u=>(HA2.out.other (p:=⟨PL,0,none⟩) (by simp) u).cell 0
  have c2:∀u,(w2.setCell ⟨PL,0,none⟩ u).cell? ⟨PL+1+1,0,none⟩=some (.int .i64 (k:Nat)):=fun u=>(HE2.out.other (p:=⟨PL,0,none⟩) (by simp; omega) u).cell 0
  have HL3:=zH ((((HL2.out.put 0 (.slice none 0 0)).other (p:=⟨PL+1,0,none⟩) (by simp) (.int .i64 (p:Nat))).other (p:=⟨PL+1+1,0,none⟩) (by simp; omega) (.int .i64 (k:Nat))).drew)
  have HA3:=zH ((((HA2.out.other (p:=⟨PL,0,none⟩) (by simp) (.slice none 0 0)).put 0 (.int .i64 (p:Nat))).other (p:=⟨PL+1+1,0,none⟩) (by simp) (.int .i64 (k:Nat))).drew)
  have HE3:=zH ((((HE2.out.other (p:=⟨PL,0,none⟩) (by simp; omega) (.slice none 0 0)).other (p:=⟨PL+1,0,none⟩) (by simp) (.int .i64 (p:Nat))).put 0 (.int .i64 (k:Nat))).drew)
  have HB3:Hid (Below PL w ((((w2.setCell ⟨PL,0,none⟩ (.slice none 0 0)).setCell ⟨PL+1,0,none⟩ (.int .i64 (p:Nat))).setCell ⟨PL+1+1,0,none⟩ (.int .i64 (k:Nat))).drew)):=
   zH (below_drewS (below_put (below_put (below_put HB2.out (p:=⟨PL,0,none⟩) (by simp) _) (p:=⟨PL+1,0,none⟩) (by simp) _) (p:=⟨PL+1+1,0,none⟩) (by simp; omega) _) 1)
  go_region_law fail
  all_goals
   generalize (((w2.setCell ⟨PL,0,none⟩ (.slice none 0 0)).setCell ⟨PL+1,0,none⟩ (.int .i64 (p:Nat))).setCell ⟨PL+1+1,0,none⟩ (.int .i64 (k:Nat))).drew=w3 at HL3 HA3 HE3 HB3 ⊢;go_wp2_with fail;refine pro_ret rfl rfl rfl HL3.out HA3.out HE3.out ⟨_,_,_,rfl⟩ fun w' hb=>⟨?_,?_⟩
   ·rw [HRR.out]; rfl
   ·rw [HPL.out]; exact HB3.out.trans (hb.mono (by have h1:=HB3.out.size; rw [HPL.out] at h1; exact h1))
 | ok l=>
  obtain ⟨v,rfl,hv⟩:=htk
  have HRR:=zH (HRO.out _ rfl)
  have HEN:=zH (HRL.out _ rfl)
  clear HRE HRO HRK HRL;go_upto_region 3 with fail
  obtain ⟨u0,r0,hl0⟩:=HEN.out.1.cons
  obtain ⟨g,c,hvv,hlc,hg1,hg2,htat⟩:=trow_at hv (by rw [hl0]; simp)
  subst hvv;clear hv hl0;have HL2:=zH ((HL1.out.other (p:=⟨PL+1,0,none⟩) (by simp) (.int .i64 0)).other (p:=⟨PL+1+1,0,none⟩) (by simp; omega) (.int .i64 0))
  have HA2:Hid (Blk _ (PL+1) 3 #[.int .i64 0]):=(HA1.out.put 0 (.int .i64 0)).other (p:=⟨PL+1+1,0,none⟩) (by simp) (.int .i64 0)
  have HE2:Hid (Blk _ (PL+1+1) 23 #[.int .i64 0]):=(HE1.out.other (p:=⟨PL+1,0,none⟩) (by simp) (.int .i64 0)).put 0 (.int .i64 0)
  have HB2:Hid (Below PL w ((w1.setCell ⟨PL+1,0,none⟩ (.int .i64 0)).setCell ⟨PL+1+1,0,none⟩ (.int .i64 0))):=by
   have h1:=HB1.out; rw [HPL.out] at h1
   exact below_put (below_put h1 (p:=⟨PL+1,0,none⟩) (by simp) _) (p:=⟨PL+1+1,0,none⟩) (by simp; omega) _
  have HTA:Hid (TkAt ((w1.setCell ⟨PL+1,0,none⟩ (.int .i64 0)).setCell ⟨PL+1+1,0,none⟩ (.int .i64 0)) l g 0):=by
   refine TkAt.keep _ _ (fun o=>?_) _ htat
   unfold World.cell?;rw [show (((w1.setCell ⟨PL+1,0,none⟩ (.int .i64 0)).setCell ⟨PL+1+1,0,none⟩ (.int .i64 0)).heap[g]?=w1.heap[g]?) from
    (Below.heap_setCell _ _ _ g (by simp; omega)).trans (Below.heap_setCell _ _ _ g (by simp; omega))]
  have HG:Hid (g < ((w1.setCell ⟨PL+1,0,none⟩ (.int .i64 0)).setCell ⟨PL+1+1,0,none⟩ (.int .i64 0)).heap.size):=by show g < _; simp [World.setCell]; exact hg2
  have HG1:=zH hg1
  have HLC:=zH hlc
  clear ca ce fa fe HL1 HA1 HE1 HB1 htat hg1 hg2 hlc HSZ;generalize (w1.setCell ⟨PL+1,0,none⟩ (.int .i64 0)).setCell ⟨PL+1+1,0,none⟩ (.int .i64 0)=w2 at*;have ce:w2.cell? ⟨PL+1+1,0,none⟩=some (.int .i64 0):=HE2.out.cell 0;obtain ⟨P,hP⟩:∃n,w2.heap.size=n:=⟨_,rfl⟩;have hps:PsW (w2.alloc (.cells #[.slice (some ⟨g,0,none⟩) l.length c,.int .i64 0] 71)) P l:=by
   have hn:=Blk.new w2 71 #[.slice (some ⟨g,0,none⟩) l.length c,.int .i64 0]
   rw [hP] at hn;refine ⟨g,l.length,c,0,hn,by omega,by have h1:=HEN.out.2; omega,HLC.out,?_,HEN.out.1,by have h1:=HG.out; omega⟩
   exact TkAt.keep _ _ (fun o=>((Below.refl _ _).alloc (Nat.le_refl _) _).cell (p:=⟨g,o,none⟩) HG.out) _ HTA.out
  have HP3:=zH hps
  have HL3:=zH (HL2.out.alloc (.cells #[.slice (some ⟨g,0,none⟩) l.length c,.int .i64 0] 71))
  have HA3:=zH (HA2.out.alloc (.cells #[.slice (some ⟨g,0,none⟩) l.length c,.int .i64 0] 71))
  have HE3:=zH (HE2.out.alloc (.cells #[.slice (some ⟨g,0,none⟩) l.length c,.int .i64 0] 71))
  have HB3:=zH (HB2.out.alloc (by have h1:=HG.out; have h2:=HG1.out; omega) (.cells #[.slice (some ⟨g,0,none⟩) l.length c,.int .i64 0] 71))
  have HPP:Hid (PL+3≤P):=by have h1:=HG.out; have h2:=HG1.out; show _≤_; omega
  have HSP:Hid (P < (w2.alloc (.cells #[.slice (some ⟨g,0,none⟩) l.length c,.int .i64 0] 71)).heap.size):=by show _ < _; simp [hP]
  go_upto_region 6 with fail
  generalize w2.alloc (.cells #[.slice (some ⟨g,0,none⟩) l.length c,.int .i64 0] 71)=w3 at*;clear hps ce hP HTA HG HG1 HLC HL2 HA2 HE2 HB2
  go_loopw [] (fun wr=>∃(l:List Tk) (acc:Fo) (n:Nat) (x:Option Addr) (a c:Nat),Hid (acc.len=a)∧Hid (PsW wr P l)∧Hid (Below PL w wr)∧Hid (Blk wr PL 22 #[.slice x a c])∧Hid (Blk wr (PL+1) 3 #[.int .i64 0])∧Hid (Blk wr (PL+1+1) 23 #[.int .i64 0])∧Hid (KRow (frS (P+1)) wr (P+1) (.slice x a c) acc)∧Hid (proL (sbP 64).1 n acc l=R)∧Hid (l.length≤n)∧Hid (a+l.length≤4097)) (fun wr=>lenOf P wr)
  case atStart=>exact ⟨l,.nil,_,none,0,0,rfl,HP3,HB3,HL3,HA3,HE3,krow_nil _ _ _,HRR.out.symm,Nat.le_refl _,by have h1:=HEN.out.2; show _≤_; omega⟩
  case round=>
   clear HP3 HL3 HA3 HE3 HB3;obtain ⟨l1,acc,m,x,a,c1,hacc,hp,hb,hl,ha,he,hk,hr,hm,hln⟩:=hrel;obtain ⟨t2,r2,rfl⟩:=hp.out.ends.cons;have HN:=zH (now_any t2 r2 P wr hp.out);have hf0:=tk_f0 t2.kind t2.at_ ⟨t2.text.toArray⟩;unfold tkV at HN;go_wp2_with fail;refine HN.out.mono ?_;rintro e w8 ⟨rfl,hbw⟩;have HLN:Hid (lenOf P wr=(t2::r2).length):=hp.out.len;have HP:=zH (hp.out.below hbw)
   have HBL:Hid (Below PL w w8):=hb.out.trans (hbw.mono (by have h1:=hl.out.lt; omega))
   have HL:Hid (Blk w8 PL 22 #[.slice x a c1]):=(hbw.block _ hl.out.lt).trans hl.out
   have HA:Hid (Blk w8 (PL+1) 3 #[.int .i64 0]):=(hbw.block _ ha.out.lt).trans ha.out
   have HE:Hid (Blk w8 (PL+1+1) 23 #[.int .i64 0]):=(hbw.block _ he.out.lt).trans he.out
   have HK:Hid (KRow (frS (P+1)) w8 (P+1) (.slice x a c1) acc):=hk.out.keep fun k hk hS=>⟨hS,hbw.block k hk⟩
   have ha4:a≤4097:=by have:=hln.out; omega
   clear hbw hp hb hl ha he hk HN;obtain ⟨m',hm'⟩:∃k,m=k+1:=⟨m - 1,by have:=hm.out; simp at this; omega⟩
   by_cases h0:t2.kind=0
   ·have e1:((t2.kind:Int) != 0)=false:=by simp [h0]
    have HRE:Hid (R=.ok acc):=by show _=_; rw [← hr.out,hm']; simp only [proL]; rw [if_pos h0]
    have cl:w8.cell? ⟨PL,0,none⟩=some (.slice x a c1):=HL.out.cell 0
    have ca:w8.cell? ⟨PL+1,0,none⟩=some (.int .i64 0):=HA.out.cell 0
    have ce:w8.cell? ⟨PL+1+1,0,none⟩=some (.int .i64 0):=HE.out.cell 0
    have fl:w8.frozen? ⟨PL,0,none⟩=false:=HL.out.frozen 0
    have fa:w8.frozen? ⟨PL+1,0,none⟩=false:=HA.out.frozen 0
    have fe:w8.frozen? ⟨PL+1+1,0,none⟩=false:=HE.out.frozen 0
    clear h0 hr hm hln hm';go_wp2_with fail;have HL9:=zH (((HL.out.put 0 (.slice x a c1)).other (p:=⟨PL+1,0,none⟩) (by simp) (.int .i64 0)).other (p:=⟨PL+1+1,0,none⟩) (by simp; omega) (.int .i64 0))
    have HA9:=zH (((HA.out.other (p:=⟨PL,0,none⟩) (by simp) (.slice x a c1)).put 0 (.int .i64 0)).other (p:=⟨PL+1+1,0,none⟩) (by simp) (.int .i64 0))
    have HE9:=zH (((HE.out.other (p:=⟨PL,0,none⟩) (by simp; omega) (.slice x a c1)).other (p:=⟨PL+1,0,none⟩) (by simp) (.int .i64 0)).put 0 (.int .i64 0))
    have HB9:Hid (Below PL w (((w8.setCell ⟨PL,0,none⟩ (.slice x a c1)).setCell ⟨PL+1,0,none⟩ (.int .i64 0)).setCell ⟨PL+1+1,0,none⟩ (.int .i64 0))):=
     below_put (below_put (below_put HBL.out (p:=⟨PL,0,none⟩) (by simp) _) (p:=⟨PL+1,0,none⟩) (by simp) _) (p:=⟨PL+1+1,0,none⟩) (by simp; omega) _
    have HK9:Hid (KRow (frS (P+1)) (((w8.setCell ⟨PL,0,none⟩ (.slice x a c1)).setCell ⟨PL+1,0,none⟩ (.int .i64 0)).setCell ⟨PL+1+1,0,none⟩ (.int .i64 0)) (P+1) (.slice x a c1) acc):=
     HK.out.keep fun k hk hS=>⟨hS,by
      have h1:=HPP.out
      simp only [frS,decide_eq_true_eq] at hS;exact (Below.heap_setCell _ _ _ k (by simp; omega)).trans ((Below.heap_setCell _ _ _ k (by simp; omega)).trans (Below.heap_setCell _ _ _ k (by simp; omega)))⟩
    clear cl ca ce fl fa fe HL HA HE HBL HK HP;generalize ((w8.setCell ⟨PL,0,none⟩ (.slice x a c1)).setCell ⟨PL+1,0,none⟩ (.int .i64 0)).setCell ⟨PL+1+1,0,none⟩ (.int .i64 0)=w9 at*;refine pro_ret rfl rfl rfl HL9.out HA9.out HE9.out ⟨_,_,_,rfl⟩ fun w' hb=>⟨?_,?_⟩
    ·rw [HRE.out]
     refine ⟨_,rfl,HK9.out.frow.sub (MSub.csub fun k hk hS=>⟨?_,hb.block k hk⟩)⟩
     have h1:=HPP.out
     have h2:=HPL.out
     simp only [frS,decide_eq_true_eq] at hS ⊢;omega
    ·rw [HPL.out]; exact HB9.out.trans (hb.mono (by have h1:=HB9.out.size; rw [HPL.out] at h1; exact h1))
   ·have e1:((t2.kind:Int) != 0)=true:=by simp; omega
    have HST:Hid (PSt PL P a w w8 (t2::r2) (.slice x a c1) acc):=⟨HP.out,HL.out,HA.out,HE.out,HBL.out,HK.out⟩
    have hop:OpOk 34 [.int .i64 1] (sbP 64).1:=(sta_all 64 1 rfl).1
    have HSH:=zH (sbP_shr 64).1
    obtain ⟨st,hste⟩:∃st,(sbP 64).1=st:=⟨_,rfl⟩
    rw [hste] at hop HSH hr;have HSTE:=zH hste;clear hste;have HOP:=zH hop;have HRE:Hid (∀y,st (t2::r2)=.error y→R=.error y):=fun y hy=>by rw [← hr.out,hm']; simp only [proL]; rw [if_neg h0,hy]
    have HRO:Hid (∀x1 l4,st (t2::r2)=.ok (x1,l4)→R=proL st m' (acc.app x1.one) l4):=fun x1 l4 hy=>by rw [← hr.out,hm']; simp only [proL]; rw [if_neg h0,hy]
    have HM:Hid (r2.length≤m'):=by have:=hm.out; simp at this; show _≤_; omega
    clear HP HL HA HE HBL HK hop hr hm hm' h0 HRR HEN;go_upto_region 7 with fail
    refine wp_region_held_drew (S:=fun _=>True) (by kernel_rfl) trivial (fun hS=>?_)
    have HSD:=zH HST.out.drew
    clear HST;generalize w8.drew=wd at*;have hcn:=HOP.out P (t2::r2) wd HSD.out.ps;have hbz:=(Below.refl wd.heap.size wd).alloc (Nat.le_refl _) (.cells zNd.toArray 31);have hcz:=HOP.out P (t2::r2) (wd.alloc (.cells zNd.toArray 31)) (HSD.out.ps.below hbz);have HCN:=zH hcn;have HCZ:=zH hcz;have HSZ:=zH (HSD.out.ext hbz);have HZZ:=zH (Blk.new wd 31 zNd.toArray)
    have k8:wd.cell? ⟨PL,0,none⟩=some (.slice x a c1):=HSD.out.ll.cell 0
    have k8z:(wd.alloc (.cells zNd.toArray 31)).cell? ⟨PL,0,none⟩=some (.slice x a c1):=HSZ.out.ll.cell 0
    have HOL:Hid (∀g,(.slice x a c1:Value).ownBlock=some g→g < wd.heap.size):=HSD.out.kr.own_lt
    clear hcn hbz hcz HOP;refine wpAnyH_take (i:=1) (oi:=⟨some 26,Op.move (Operand.tmp 6),69,_,_,none⟩) (v:=?vp1) rfl (by kernel_rfl) (by kernel_rfl) (by kernel_rfl) (fun _ _ _ h=>post_put (by decide) h) (Or.inl ⟨by rfl,?yp1⟩) hS ?rp1
    case yp1=>(intro w hSw; (try dsimp only at hSw); go_simp; try with_reducible rfl)
    try simp only [Act.put,zs1,zs2,zs3]
    refine wpAnyH_ready (rs:=[0,2,4]) (by kernel_rfl) (by simp) ?rp2
    refine AllReadyH.cons (o:=⟨some 25,Op.load 22 (Operand.tmp 2),22,_,_,none⟩) rfl (fun K hK=>?sap2) (AllReadyH.cons (o:=⟨some 27,Op.call { callee:=Callee.value (Operand.func 34),args:=#[Operand.tmp 26,Operand.const (Value.int IntKind.i64 1)],argTypes:=#[69,3] },31,_,_,none⟩) rfl (fun K hK=>?sbp2) (AllReadyH.cons (o:=⟨some 29,Op.buildSlice 22 1 #[(0,Operand.const (Value.agg #[Value.int IntKind.i64 0,Value.string ⟨#[]⟩,Value.int IntKind.i64 0,Value.slice none 0 0,Value.slice none 0 0,Value.int IntKind.i64 0]))],22,_,_,none⟩) rfl (fun K hK=>?scp2) AllReadyH.nil))
    case sap2=>
     go_simp;refine hK.out _ _ ?_ fun hT=>?_
     ·exact trivial
     replace hS:=hT;clear hT hK K;try simp only [Act.put,zs1,zs2,zs3]
     refine wpAnyH_take (i:=3) (oi:=⟨some 28,Op.call { callee:=Callee.builtin Builtin.len,args:=#[Operand.tmp 25],argTypes:=#[22] },3,_,_,none⟩) (v:=?vp3) rfl (by kernel_rfl) (by kernel_rfl) (by kernel_rfl) (fun _ _ _ h=>post_put (by decide) h) (Or.inl ⟨by rfl,?yp3⟩) hS ?rp3
     case yp3=>(intro w hSw; (try dsimp only at hSw); go_simp; try with_reducible rfl)
     try simp only [Act.put,zs1,zs2,zs3]
     refine zF 2 4 (fun K hK=>?sap4) (fun K hK=>?sbp4)
     case sap4=>
      go_simp;refine HCN.out.mono ?_;intro e w9 h;obtain ⟨hb9,h⟩:=h;rcases hRR:st (t2::r2) with y | ⟨x1,l4⟩
      ·rw [hRR] at h
       obtain rfl:=h
       have HRR:=zH (HRE.out _ hRR)
       have HB9:=zH hb9
       have HL9:=zH (hb9.blk HSD.out.ll (by have h1:=HPP.out; omega))
       have HA9:=zH (hb9.blk HSD.out.la (by have h1:=HPP.out; omega))
       have HE9:=zH (hb9.blk HSD.out.le (by have h1:=HPP.out; omega))
       clear hRR hb9 HRE HRO HCN HCZ;go_wp2_with fail;refine pro_panic rfl rfl rfl HL9.out HA9.out HE9.out fun wq hb=>⟨by rw [HRR.out]; rfl,?_⟩
       rw [HPL.out];exact HSD.out.fail HPP.out HB9.out hb
      rw [hRR] at h;obtain ⟨⟨T,rfl,hT⟩,hp9⟩:=h;have HRR:=zH (HRO.out _ _ hRR);have HLL:Hid (l4.length < (t2::r2).length):=HSH.out _ _ _ hRR;have HS9:=zH (HSD.out.but HPP.out hb9 hp9);have HSI:Hid (wd.heap.size≤w9.heap.size):=Nat.le_trans (by first | exact Nat.le_refl _ | simp) hb9.size
      have k9:w9.cell? ⟨PL,0,none⟩=some (.slice x a c1):=HS9.out.ll.cell 0
      have k9z:(w9.alloc (.cells zNd.toArray 31)).cell? ⟨PL,0,none⟩=some (.slice x a c1):=(HS9.out.ll.alloc _).cell 0
      have HT:=zH hT
      have HB9:=zH hb9
      clear hRR hb9 hp9 hT HRE HRO HCN HCZ;refine hK.out _ _ ?_ fun hT=>?_
      ·exact trivial
      replace hS:=hT;clear hT hK K;try simp only [Act.put,zs1,zs2,zs3]
      refine zR 4 fun K hK=>?_
      refine pstep_oneN el_syn rfl rfl (T:=zNd.toArray) rfl (by rfl) ?_
      refine hK.out _ _ ?_ fun hT=>?_
      ·exact trivial
      replace hS:=hT;clear hT hK K;try simp only [Act.put,zs1,zs2,zs3]
      have hbq:=(Below.refl w9.heap.size w9).alloc (Nat.le_refl _) (.cells zNd.toArray 31)
      have HZQ:=zH (Blk.new w9 31 zNd.toArray)
      have HSQ:=zH (HS9.out.ext hbq)
      have HZS:Hid (wd.heap.size≤wd.heap.size):=Nat.le_refl _
      have HTQ:Hid (NdV (maskW (fun k=>frS (P+1) k&&decide ((.slice x a c1:Value).ownBlock≠some k)) (w9.alloc (.cells zNd.toArray 31))) T x1):=HT.out.sub (MSub.csub fun k hk hS=>⟨by
        have h1:=HSD.out.ps.lt
        simp only [frS,decide_eq_true_eq,Bool.and_eq_true] at hS ⊢;refine ⟨by have h2:=HZS.out; omega,fun he=>by have h3:=HOL.out k he; have h2:=HZS.out; omega⟩,Below.heap_alloc _ _ _ hk⟩)
      clear hbq HS9 HT HB9 k9 k9z HSI HZS;generalize (w9.alloc (.cells zNd.toArray 31))=wq at*;generalize w9.heap.size=KQ at*;clear HSZ k8 k8z HOL;refine zR 5 fun K hK=>?_
      refine pstep_app0 (n:=a) el_syn HSQ.out.kr hacc.out (fun k hk=>by have h1:=HSQ.out.ps.lt; simp only [frS,decide_eq_true_eq]; omega) HTQ.out (by have h1:=HSQ.out.ps.lt; omega) HZQ.out rfl rfl (by rfl) (by rfl) (by omega) (by unfold maxLen; omega) ?_
      intro rA capA w11 xs hxs how hou hSr hmore;refine hK.out _ _ ?_ fun hT=>?_
      ·exact trivial
      replace hS:=hT;clear hT hK K;try simp only [Act.put,zs1,zs2,zs3]
      have hrp:P+1≤rA:=by simpa only [frS,decide_eq_true_eq] using hSr
      have hrp2:=HPP.out
      have hq1:(a:Int) < (a:Int)+1:=by omega
      have hq2:(a:Int) < ((a+1:Nat):Int):=by omega
      have hl11:Blk w11 PL 22 #[.slice x a c1]:=hou.blk HSQ.out.ll (by simp only [frS,decide_eq_false_iff_not]; omega)
      have kl:w11.cell? ⟨PL,0,none⟩=some (.slice x a c1):=hl11.cell 0
      have fl:w11.frozen? ⟨PL,0,none⟩=false:=hl11.frozen 0
      have hput:=own_put T.toList zNd xs w11 (by simp [zNd,HTQ.out.size]) how
      rw [hxs] at hput;have hlp:Blk (w11.setCells rA (a*6) T.toList) PL 22 #[.slice x a c1]:=(hput.2.block PL hl11.lt (by simp; omega)).trans hl11
      have klp:(w11.setCells rA (a*6) T.toList).cell? ⟨PL,0,none⟩=some (.slice x a c1):=hlp.cell 0
      have flp:(w11.setCells rA (a*6) T.toList).frozen? ⟨PL,0,none⟩=false:=hlp.frozen 0
      have how8:=own_keep (w':=(w11.setCell ⟨PL,0,none⟩ (.slice (some ⟨rA,0,none⟩) (a+1) capA))) how (fun k hk _=>Below.heap_setCell _ _ _ k (by simp [Value.ownBlock] at hk; simp; omega))
      have hput8:=own_put T.toList zNd xs (w11.setCell ⟨PL,0,none⟩ (.slice (some ⟨rA,0,none⟩) (a+1) capA)) (by simp [zNd,HTQ.out.size]) how8
      rw [hxs] at hput8;have how7:=own_keep (w':=(w11.setCells rA (a*6) T.toList).setCell ⟨PL,0,none⟩ (.slice (some ⟨rA,0,none⟩) (a+1) capA)) hput.1 (fun k hk _=>Below.heap_setCell _ _ _ k (by simp [Value.ownBlock] at hk; simp; omega))
      have hrs7:PSt PL P a w ((w11.setCells rA (a*6) T.toList).setCell ⟨PL,0,none⟩ (.slice (some ⟨rA,0,none⟩) (a+1) capA)) l4 (.slice (some ⟨rA,0,none⟩) (a+1) capA) (acc.app x1.one):=
       HSQ.out.last HPP.out hou hSr hmore hput.2.os hput.2.tape hput.2.output (by simpa [World.setCell] using hput.2.size) (fun k hk h1 h2=>(Below.heap_setCell _ _ _ k h2).trans (hput.2.block k hk (by simp; exact h1))) (hlp.put 0 _) how7
      have hrs8:PSt PL P a w ((w11.setCell ⟨PL,0,none⟩ (.slice (some ⟨rA,0,none⟩) (a+1) capA)).setCells rA (a*6) T.toList) l4 (.slice (some ⟨rA,0,none⟩) (a+1) capA) (acc.app x1.one):=
       HSQ.out.last HPP.out hou hSr hmore hput8.2.os hput8.2.tape hput8.2.output (by have h1:=hput8.2.size; simpa [World.setCell] using h1) (fun k hk h1 h2=>(hput8.2.block k (by simpa [World.setCell] using hk) (by simp; exact h1)).trans (Below.heap_setCell _ _ _ k h2)) ((hput8.2.block PL (by simpa [World.setCell] using hl11.lt) (by simp; omega)).trans (hl11.put 0 _)) hput8.1
      have HR7:=zH hrs7
      have HR8:=zH hrs8
      have HTH:=zH (own_there how (m:=a*6) (by omega))
      have HTH8:=zH (own_there how8 (m:=a*6) (by omega))
      clear hrs7 hrs8 how how7 how8 hput hput8 hlp hl11 hmore hou hSr hxs;refine wpAnyH_take (i:=6) (oi:=⟨some 31,Op.indexAddr 22 (Operand.tmp 30) (Operand.tmp 28),0,_,_,none⟩) (v:=?vp7) rfl (by kernel_rfl) (by kernel_rfl) (by kernel_rfl) (fun _ _ _ h=>post_put (by decide) h) (Or.inl ⟨by rfl,?yp7⟩) hS ?rp7
      case yp7=>(intro w hSw; (try dsimp only at hSw); go_simp; try with_reducible rfl)
      try simp only [Act.put,zs1,zs2,zs3]
      refine zF 7 8 (fun K hK=>?sap8) (fun K hK=>?sbp8)
      case sap8=>
       refine pstep_mid rfl _ _ _ rfl rfl rA (a*6) T (by rfl) (by rfl) (by rw [HTQ.out.size]; exact HTH.out) (by exact HTQ.out.inf) (by exact HTQ.out.one) ?_
       refine hK.out _ _ ?_ fun hT=>?_
       ·exact trivial
       replace hS:=hT;clear hT hK K;try simp only [Act.put,zs1,zs2,zs3]
       refine zR 8 fun K hK=>?_
       go_simp;refine hK.out _ _ ?_ fun hT=>?_
       ·exact trivial
       replace hS:=hT;clear hT hK K;try simp only [Act.put,zs1,zs2,zs3]
       refine wpAnyH_done (by kernel_rfl) ?_ _
       have HRQ:=HR7
       clear HR7 HR8 HTH HTH8 kl fl klp flp;generalize (w11.setCells rA (a*6) T.toList).setCell ⟨PL,0,none⟩ (.slice (some ⟨rA,0,none⟩) (a+1) capA)=wc at*;have HM1:Hid (lenOf P wc < lenOf P wr):=by show _ < _; rw [HRQ.out.ps.len,HLN.out]; exact HLL.out
       have HM2:Hid (l4.length≤m'):=by have h1:=HLL.out; have h2:=HM.out; simp only [List.length_cons] at h1; show _≤_; omega
       have HM3:Hid (a+1+l4.length≤4097):=by have h1:=HLL.out; have h2:=hln.out; show _≤_; omega
       have HAC:Hid ((acc.app x1.one).len=a+1):=by show _=_; rw [Fo.app_len,hacc.out]; rfl
       go_wp2_with fail;go_roundw
       case rel=>exact ⟨l4,acc.app x1.one,m',some ⟨rA,0,none⟩,a+1,capA,HAC.out,HRQ.out.ps,HRQ.out.bl,HRQ.out.ll,HRQ.out.la,HRQ.out.le,HRQ.out.kr,(by show proL (sbP 64).1 m' (acc.app x1.one) l4=R; rw [HSTE.out]; exact HRR.out.symm),HM2.out,HM3.out⟩
       case measure=>exact HM1.out
      case sbp8=>
       go_simp;refine hK.out _ _ ?_ fun hT=>?_
       ·exact trivial
       replace hS:=hT;clear hT hK K;try simp only [Act.put,zs1,zs2,zs3]
       refine zR 7 fun K hK=>?_
       refine pstep_mid rfl _ _ _ rfl rfl rA (a*6) T (by rfl) (by rfl) (by rw [HTQ.out.size]; exact HTH8.out) (by exact HTQ.out.inf) (by exact HTQ.out.one) ?_
       refine hK.out _ _ ?_ fun hT=>?_
       ·exact trivial
       replace hS:=hT;clear hT hK K;try simp only [Act.put,zs1,zs2,zs3]
       refine wpAnyH_done (by kernel_rfl) ?_ _
       have HRQ:=HR8
       clear HR7 HR8 HTH HTH8 kl fl klp flp;generalize (w11.setCell ⟨PL,0,none⟩ (.slice (some ⟨rA,0,none⟩) (a+1) capA)).setCells rA (a*6) T.toList=wc at*;have HM1:Hid (lenOf P wc < lenOf P wr):=by show _ < _; rw [HRQ.out.ps.len,HLN.out]; exact HLL.out
       have HM2:Hid (l4.length≤m'):=by have h1:=HLL.out; have h2:=HM.out; simp only [List.length_cons] at h1; show _≤_; omega
       have HM3:Hid (a+1+l4.length≤4097):=by have h1:=HLL.out; have h2:=hln.out; show _≤_; omega
       have HAC:Hid ((acc.app x1.one).len=a+1):=by show _=_; rw [Fo.app_len,hacc.out]; rfl
       go_wp2_with fail;go_roundw
       case rel=>exact ⟨l4,acc.app x1.one,m',some ⟨rA,0,none⟩,a+1,capA,HAC.out,HRQ.out.ps,HRQ.out.bl,HRQ.out.ll,HRQ.out.la,HRQ.out.le,HRQ.out.kr,(by show proL (sbP 64).1 m' (acc.app x1.one) l4=R; rw [HSTE.out]; exact HRR.out.symm),HM2.out,HM3.out⟩
       case measure=>exact HM1.out
     case sbp4=>
      refine pstep_oneN el_syn rfl rfl (T:=zNd.toArray) rfl (by rfl) ?_
      refine hK.out _ _ ?_ fun hT=>?_
      ·exact trivial
      replace hS:=hT;clear hT hK K;try simp only [Act.put,zs1,zs2,zs3]
      refine zR 2 fun K hK=>?_
      go_simp;refine HCZ.out.mono ?_;intro e w9 h;obtain ⟨hb9,h⟩:=h;rcases hRR:st (t2::r2) with y | ⟨x1,l4⟩
      ·rw [hRR] at h
       obtain rfl:=h
       have HRR:=zH (HRE.out _ hRR)
       have HB9:=zH hb9
       have HL9:=zH (hb9.blk HSZ.out.ll (by have h1:=HPP.out; omega))
       have HA9:=zH (hb9.blk HSZ.out.la (by have h1:=HPP.out; omega))
       have HE9:=zH (hb9.blk HSZ.out.le (by have h1:=HPP.out; omega))
       clear hRR hb9 HRE HRO HCN HCZ;go_wp2_with fail;refine pro_panic rfl rfl rfl HL9.out HA9.out HE9.out fun wq hb=>⟨by rw [HRR.out]; rfl,?_⟩
       rw [HPL.out];exact HSZ.out.fail HPP.out HB9.out hb
      rw [hRR] at h;obtain ⟨⟨T,rfl,hT⟩,hp9⟩:=h;have HRR:=zH (HRO.out _ _ hRR);have HLL:Hid (l4.length < (t2::r2).length):=HSH.out _ _ _ hRR;have HS9:=zH (HSZ.out.but HPP.out hb9 hp9);have HSI:Hid (wd.heap.size≤w9.heap.size):=Nat.le_trans (by first | exact Nat.le_refl _ | simp) hb9.size
      have k9:w9.cell? ⟨PL,0,none⟩=some (.slice x a c1):=HS9.out.ll.cell 0
      have k9z:(w9.alloc (.cells zNd.toArray 31)).cell? ⟨PL,0,none⟩=some (.slice x a c1):=(HS9.out.ll.alloc _).cell 0
      have HT:=zH hT
      have HB9:=zH hb9
      clear hRR hb9 hp9 hT HRE HRO HCN HCZ;refine hK.out _ _ ?_ fun hT=>?_
      ·exact trivial
      replace hS:=hT;clear hT hK K;try simp only [Act.put,zs1,zs2,zs3]
      have HZQ:Hid (Blk w9 wd.heap.size 31 zNd.toArray):=HB9.out.blk HZZ.out (Nat.ne_of_gt HSD.out.ps.lt)
      have HSQ:=HS9
      have HZS:Hid (wd.heap.size≤(wd.alloc (.cells zNd.toArray 31)).heap.size):=by show _≤_; simp
      have HTQ:Hid (NdV (maskW (fun k=>frS (P+1) k&&decide ((.slice x a c1:Value).ownBlock≠some k)) w9) T x1):=HT.out.sub (MSub.csub fun k hk hS=>⟨by
        have h1:=HSD.out.ps.lt
        simp only [frS,decide_eq_true_eq,Bool.and_eq_true] at hS ⊢;refine ⟨by have h2:=HZS.out; omega,fun he=>by have h3:=HOL.out k he; have h2:=HZS.out; omega⟩,rfl⟩)
      clear HS9 HT HB9 k9 k9z HSI HZS HZZ;generalize wd.heap.size=KQ at*;generalize w9=wq at*;clear HSZ k8 k8z HOL;refine zR 5 fun K hK=>?_
      refine pstep_app0 (n:=a) el_syn HSQ.out.kr hacc.out (fun k hk=>by have h1:=HSQ.out.ps.lt; simp only [frS,decide_eq_true_eq]; omega) HTQ.out (by have h1:=HSQ.out.ps.lt; omega) HZQ.out rfl rfl (by rfl) (by rfl) (by omega) (by unfold maxLen; omega) ?_
      intro rA capA w11 xs hxs how hou hSr hmore;refine hK.out _ _ ?_ fun hT=>?_
      ·exact trivial
      replace hS:=hT;clear hT hK K;try simp only [Act.put,zs1,zs2,zs3]
      have hrp:P+1≤rA:=by simpa only [frS,decide_eq_true_eq] using hSr
      have hrp2:=HPP.out
      have hq1:(a:Int) < (a:Int)+1:=by omega
      have hq2:(a:Int) < ((a+1:Nat):Int):=by omega
      have hl11:Blk w11 PL 22 #[.slice x a c1]:=hou.blk HSQ.out.ll (by simp only [frS,decide_eq_false_iff_not]; omega)
      have kl:w11.cell? ⟨PL,0,none⟩=some (.slice x a c1):=hl11.cell 0
      have fl:w11.frozen? ⟨PL,0,none⟩=false:=hl11.frozen 0
      have hput:=own_put T.toList zNd xs w11 (by simp [zNd,HTQ.out.size]) how
      rw [hxs] at hput;have hlp:Blk (w11.setCells rA (a*6) T.toList) PL 22 #[.slice x a c1]:=(hput.2.block PL hl11.lt (by simp; omega)).trans hl11
      have klp:(w11.setCells rA (a*6) T.toList).cell? ⟨PL,0,none⟩=some (.slice x a c1):=hlp.cell 0
      have flp:(w11.setCells rA (a*6) T.toList).frozen? ⟨PL,0,none⟩=false:=hlp.frozen 0
      have how8:=own_keep (w':=(w11.setCell ⟨PL,0,none⟩ (.slice (some ⟨rA,0,none⟩) (a+1) capA))) how (fun k hk _=>Below.heap_setCell _ _ _ k (by simp [Value.ownBlock] at hk; simp; omega))
      have hput8:=own_put T.toList zNd xs (w11.setCell ⟨PL,0,none⟩ (.slice (some ⟨rA,0,none⟩) (a+1) capA)) (by simp [zNd,HTQ.out.size]) how8
      rw [hxs] at hput8;have how7:=own_keep (w':=(w11.setCells rA (a*6) T.toList).setCell ⟨PL,0,none⟩ (.slice (some ⟨rA,0,none⟩) (a+1) capA)) hput.1 (fun k hk _=>Below.heap_setCell _ _ _ k (by simp [Value.ownBlock] at hk; simp; omega))
      have hrs7:PSt PL P a w ((w11.setCells rA (a*6) T.toList).setCell ⟨PL,0,none⟩ (.slice (some ⟨rA,0,none⟩) (a+1) capA)) l4 (.slice (some ⟨rA,0,none⟩) (a+1) capA) (acc.app x1.one):=
       HSQ.out.last HPP.out hou hSr hmore hput.2.os hput.2.tape hput.2.output (by simpa [World.setCell] using hput.2.size) (fun k hk h1 h2=>(Below.heap_setCell _ _ _ k h2).trans (hput.2.block k hk (by simp; exact h1))) (hlp.put 0 _) how7
      have hrs8:PSt PL P a w ((w11.setCell ⟨PL,0,none⟩ (.slice (some ⟨rA,0,none⟩) (a+1) capA)).setCells rA (a*6) T.toList) l4 (.slice (some ⟨rA,0,none⟩) (a+1) capA) (acc.app x1.one):=
       HSQ.out.last HPP.out hou hSr hmore hput8.2.os hput8.2.tape hput8.2.output (by have h1:=hput8.2.size; simpa [World.setCell] using h1) (fun k hk h1 h2=>(hput8.2.block k (by simpa [World.setCell] using hk) (by simp; exact h1)).trans (Below.heap_setCell _ _ _ k h2)) ((hput8.2.block PL (by simpa [World.setCell] using hl11.lt) (by simp; omega)).trans (hl11.put 0 _)) hput8.1
      have HR7:=zH hrs7
      have HR8:=zH hrs8
      have HTH:=zH (own_there how (m:=a*6) (by omega))
      have HTH8:=zH (own_there how8 (m:=a*6) (by omega))
      clear hrs7 hrs8 how how7 how8 hput hput8 hlp hl11 hmore hou hSr hxs;refine wpAnyH_take (i:=6) (oi:=⟨some 31,Op.indexAddr 22 (Operand.tmp 30) (Operand.tmp 28),0,_,_,none⟩) (v:=?vp13) rfl (by kernel_rfl) (by kernel_rfl) (by kernel_rfl) (fun _ _ _ h=>post_put (by decide) h) (Or.inl ⟨by rfl,?yp13⟩) hS ?rp13
      case yp13=>(intro w hSw; (try dsimp only at hSw); go_simp; try with_reducible rfl)
      try simp only [Act.put,zs1,zs2,zs3]
      refine zF 7 8 (fun K hK=>?sap14) (fun K hK=>?sbp14)
      case sap14=>
       refine pstep_mid rfl _ _ _ rfl rfl rA (a*6) T (by rfl) (by rfl) (by rw [HTQ.out.size]; exact HTH.out) (by exact HTQ.out.inf) (by exact HTQ.out.one) ?_
       refine hK.out _ _ ?_ fun hT=>?_
       ·exact trivial
       replace hS:=hT;clear hT hK K;try simp only [Act.put,zs1,zs2,zs3]
       refine zR 8 fun K hK=>?_
       go_simp;refine hK.out _ _ ?_ fun hT=>?_
       ·exact trivial
       replace hS:=hT;clear hT hK K;try simp only [Act.put,zs1,zs2,zs3]
       refine wpAnyH_done (by kernel_rfl) ?_ _
       have HRQ:=HR7
       clear HR7 HR8 HTH HTH8 kl fl klp flp;generalize (w11.setCells rA (a*6) T.toList).setCell ⟨PL,0,none⟩ (.slice (some ⟨rA,0,none⟩) (a+1) capA)=wc at*;have HM1:Hid (lenOf P wc < lenOf P wr):=by show _ < _; rw [HRQ.out.ps.len,HLN.out]; exact HLL.out
       have HM2:Hid (l4.length≤m'):=by have h1:=HLL.out; have h2:=HM.out; simp only [List.length_cons] at h1; show _≤_; omega
       have HM3:Hid (a+1+l4.length≤4097):=by have h1:=HLL.out; have h2:=hln.out; show _≤_; omega
       have HAC:Hid ((acc.app x1.one).len=a+1):=by show _=_; rw [Fo.app_len,hacc.out]; rfl
       go_wp2_with fail;go_roundw
       case rel=>exact ⟨l4,acc.app x1.one,m',some ⟨rA,0,none⟩,a+1,capA,HAC.out,HRQ.out.ps,HRQ.out.bl,HRQ.out.ll,HRQ.out.la,HRQ.out.le,HRQ.out.kr,(by show proL (sbP 64).1 m' (acc.app x1.one) l4=R; rw [HSTE.out]; exact HRR.out.symm),HM2.out,HM3.out⟩
       case measure=>exact HM1.out
      case sbp14=>
       go_simp;refine hK.out _ _ ?_ fun hT=>?_
       ·exact trivial
       replace hS:=hT;clear hT hK K;try simp only [Act.put,zs1,zs2,zs3]
       refine zR 7 fun K hK=>?_
       refine pstep_mid rfl _ _ _ rfl rfl rA (a*6) T (by rfl) (by rfl) (by rw [HTQ.out.size]; exact HTH8.out) (by exact HTQ.out.inf) (by exact HTQ.out.one) ?_
       refine hK.out _ _ ?_ fun hT=>?_
       ·exact trivial
       replace hS:=hT;clear hT hK K;try simp only [Act.put,zs1,zs2,zs3]
       refine wpAnyH_done (by kernel_rfl) ?_ _
       have HRQ:=HR8
       clear HR7 HR8 HTH HTH8 kl fl klp flp;generalize (w11.setCell ⟨PL,0,none⟩ (.slice (some ⟨rA,0,none⟩) (a+1) capA)).setCells rA (a*6) T.toList=wc at*;have HM1:Hid (lenOf P wc < lenOf P wr):=by show _ < _; rw [HRQ.out.ps.len,HLN.out]; exact HLL.out
       have HM2:Hid (l4.length≤m'):=by have h1:=HLL.out; have h2:=HM.out; simp only [List.length_cons] at h1; show _≤_; omega
       have HM3:Hid (a+1+l4.length≤4097):=by have h1:=HLL.out; have h2:=hln.out; show _≤_; omega
       have HAC:Hid ((acc.app x1.one).len=a+1):=by show _=_; rw [Fo.app_len,hacc.out]; rfl
       go_wp2_with fail;go_roundw
       case rel=>exact ⟨l4,acc.app x1.one,m',some ⟨rA,0,none⟩,a+1,capA,HAC.out,HRQ.out.ps,HRQ.out.bl,HRQ.out.ll,HRQ.out.la,HRQ.out.le,HRQ.out.kr,(by show proL (sbP 64).1 m' (acc.app x1.one) l4=R; rw [HSTE.out]; exact HRR.out.symm),HM2.out,HM3.out⟩
       case measure=>exact HM1.out
    case sbp2=>
     go_simp;refine HCN.out.mono ?_;intro e w9 h;obtain ⟨hb9,h⟩:=h;rcases hRR:st (t2::r2) with y | ⟨x1,l4⟩
     ·rw [hRR] at h
      obtain rfl:=h
      have HRR:=zH (HRE.out _ hRR)
      have HB9:=zH hb9
      have HL9:=zH (hb9.blk HSD.out.ll (by have h1:=HPP.out; omega))
      have HA9:=zH (hb9.blk HSD.out.la (by have h1:=HPP.out; omega))
      have HE9:=zH (hb9.blk HSD.out.le (by have h1:=HPP.out; omega))
      clear hRR hb9 HRE HRO HCN HCZ;go_wp2_with fail;refine pro_panic rfl rfl rfl HL9.out HA9.out HE9.out fun wq hb=>⟨by rw [HRR.out]; rfl,?_⟩
      rw [HPL.out];exact HSD.out.fail HPP.out HB9.out hb
     rw [hRR] at h;obtain ⟨⟨T,rfl,hT⟩,hp9⟩:=h;have HRR:=zH (HRO.out _ _ hRR);have HLL:Hid (l4.length < (t2::r2).length):=HSH.out _ _ _ hRR;have HS9:=zH (HSD.out.but HPP.out hb9 hp9);have HSI:Hid (wd.heap.size≤w9.heap.size):=Nat.le_trans (by first | exact Nat.le_refl _ | simp) hb9.size
     have k9:w9.cell? ⟨PL,0,none⟩=some (.slice x a c1):=HS9.out.ll.cell 0
     have k9z:(w9.alloc (.cells zNd.toArray 31)).cell? ⟨PL,0,none⟩=some (.slice x a c1):=(HS9.out.ll.alloc _).cell 0
     have HT:=zH hT
     have HB9:=zH hb9
     clear hRR hb9 hp9 hT HRE HRO HCN HCZ;refine hK.out _ _ ?_ fun hT=>?_
     ·exact trivial
     replace hS:=hT;clear hT hK K;try simp only [Act.put,zs1,zs2,zs3]
     refine zF 0 4 (fun K hK=>?sap17) (fun K hK=>?sbp17)
     case sap17=>
      go_simp;refine hK.out _ _ ?_ fun hT=>?_
      ·exact trivial
      replace hS:=hT;clear hT hK K;try simp only [Act.put,zs1,zs2,zs3]
      refine wpAnyH_take (i:=3) (oi:=⟨some 28,Op.call { callee:=Callee.builtin Builtin.len,args:=#[Operand.tmp 25],argTypes:=#[22] },3,_,_,none⟩) (v:=?vp18) rfl (by kernel_rfl) (by kernel_rfl) (by kernel_rfl) (fun _ _ _ h=>post_put (by decide) h) (Or.inl ⟨by rfl,?yp18⟩) hS ?rp18
      case yp18=>(intro w hSw; (try dsimp only at hSw); go_simp; try with_reducible rfl)
      try simp only [Act.put,zs1,zs2,zs3]
      refine zR 4 fun K hK=>?_
      refine pstep_oneN el_syn rfl rfl (T:=zNd.toArray) rfl (by rfl) ?_
      refine hK.out _ _ ?_ fun hT=>?_
      ·exact trivial
      replace hS:=hT;clear hT hK K;try simp only [Act.put,zs1,zs2,zs3]
      have hbq:=(Below.refl w9.heap.size w9).alloc (Nat.le_refl _) (.cells zNd.toArray 31)
      have HZQ:=zH (Blk.new w9 31 zNd.toArray)
      have HSQ:=zH (HS9.out.ext hbq)
      have HZS:Hid (wd.heap.size≤wd.heap.size):=Nat.le_refl _
      have HTQ:Hid (NdV (maskW (fun k=>frS (P+1) k&&decide ((.slice x a c1:Value).ownBlock≠some k)) (w9.alloc (.cells zNd.toArray 31))) T x1):=HT.out.sub (MSub.csub fun k hk hS=>⟨by
        have h1:=HSD.out.ps.lt
        simp only [frS,decide_eq_true_eq,Bool.and_eq_true] at hS ⊢;refine ⟨by have h2:=HZS.out; omega,fun he=>by have h3:=HOL.out k he; have h2:=HZS.out; omega⟩,Below.heap_alloc _ _ _ hk⟩)
      clear hbq HS9 HT HB9 k9 k9z HSI HZS;generalize (w9.alloc (.cells zNd.toArray 31))=wq at*;generalize w9.heap.size=KQ at*;clear HSZ k8 k8z HOL;refine zR 5 fun K hK=>?_
      refine pstep_app0 (n:=a) el_syn HSQ.out.kr hacc.out (fun k hk=>by have h1:=HSQ.out.ps.lt; simp only [frS,decide_eq_true_eq]; omega) HTQ.out (by have h1:=HSQ.out.ps.lt; omega) HZQ.out rfl rfl (by rfl) (by rfl) (by omega) (by unfold maxLen; omega) ?_
      intro rA capA w11 xs hxs how hou hSr hmore;refine hK.out _ _ ?_ fun hT=>?_
      ·exact trivial
      replace hS:=hT;clear hT hK K;try simp only [Act.put,zs1,zs2,zs3]
      have hrp:P+1≤rA:=by simpa only [frS,decide_eq_true_eq] using hSr
      have hrp2:=HPP.out
      have hq1:(a:Int) < (a:Int)+1:=by omega
      have hq2:(a:Int) < ((a+1:Nat):Int):=by omega
      have hl11:Blk w11 PL 22 #[.slice x a c1]:=hou.blk HSQ.out.ll (by simp only [frS,decide_eq_false_iff_not]; omega)
      have kl:w11.cell? ⟨PL,0,none⟩=some (.slice x a c1):=hl11.cell 0
      have fl:w11.frozen? ⟨PL,0,none⟩=false:=hl11.frozen 0
      have hput:=own_put T.toList zNd xs w11 (by simp [zNd,HTQ.out.size]) how
      rw [hxs] at hput;have hlp:Blk (w11.setCells rA (a*6) T.toList) PL 22 #[.slice x a c1]:=(hput.2.block PL hl11.lt (by simp; omega)).trans hl11
      have klp:(w11.setCells rA (a*6) T.toList).cell? ⟨PL,0,none⟩=some (.slice x a c1):=hlp.cell 0
      have flp:(w11.setCells rA (a*6) T.toList).frozen? ⟨PL,0,none⟩=false:=hlp.frozen 0
      have how8:=own_keep (w':=(w11.setCell ⟨PL,0,none⟩ (.slice (some ⟨rA,0,none⟩) (a+1) capA))) how (fun k hk _=>Below.heap_setCell _ _ _ k (by simp [Value.ownBlock] at hk; simp; omega))
      have hput8:=own_put T.toList zNd xs (w11.setCell ⟨PL,0,none⟩ (.slice (some ⟨rA,0,none⟩) (a+1) capA)) (by simp [zNd,HTQ.out.size]) how8
      rw [hxs] at hput8;have how7:=own_keep (w':=(w11.setCells rA (a*6) T.toList).setCell ⟨PL,0,none⟩ (.slice (some ⟨rA,0,none⟩) (a+1) capA)) hput.1 (fun k hk _=>Below.heap_setCell _ _ _ k (by simp [Value.ownBlock] at hk; simp; omega))
      have hrs7:PSt PL P a w ((w11.setCells rA (a*6) T.toList).setCell ⟨PL,0,none⟩ (.slice (some ⟨rA,0,none⟩) (a+1) capA)) l4 (.slice (some ⟨rA,0,none⟩) (a+1) capA) (acc.app x1.one):=
       HSQ.out.last HPP.out hou hSr hmore hput.2.os hput.2.tape hput.2.output (by simpa [World.setCell] using hput.2.size) (fun k hk h1 h2=>(Below.heap_setCell _ _ _ k h2).trans (hput.2.block k hk (by simp; exact h1))) (hlp.put 0 _) how7
      have hrs8:PSt PL P a w ((w11.setCell ⟨PL,0,none⟩ (.slice (some ⟨rA,0,none⟩) (a+1) capA)).setCells rA (a*6) T.toList) l4 (.slice (some ⟨rA,0,none⟩) (a+1) capA) (acc.app x1.one):=
       HSQ.out.last HPP.out hou hSr hmore hput8.2.os hput8.2.tape hput8.2.output (by have h1:=hput8.2.size; simpa [World.setCell] using h1) (fun k hk h1 h2=>(hput8.2.block k (by simpa [World.setCell] using hk) (by simp; exact h1)).trans (Below.heap_setCell _ _ _ k h2)) ((hput8.2.block PL (by simpa [World.setCell] using hl11.lt) (by simp; omega)).trans (hl11.put 0 _)) hput8.1
      have HR7:=zH hrs7
      have HR8:=zH hrs8
      have HTH:=zH (own_there how (m:=a*6) (by omega))
      have HTH8:=zH (own_there how8 (m:=a*6) (by omega))
      clear hrs7 hrs8 how how7 how8 hput hput8 hlp hl11 hmore hou hSr hxs;refine wpAnyH_take (i:=6) (oi:=⟨some 31,Op.indexAddr 22 (Operand.tmp 30) (Operand.tmp 28),0,_,_,none⟩) (v:=?vp21) rfl (by kernel_rfl) (by kernel_rfl) (by kernel_rfl) (fun _ _ _ h=>post_put (by decide) h) (Or.inl ⟨by rfl,?yp21⟩) hS ?rp21
      case yp21=>(intro w hSw; (try dsimp only at hSw); go_simp; try with_reducible rfl)
      try simp only [Act.put,zs1,zs2,zs3]
      refine zF 7 8 (fun K hK=>?sap22) (fun K hK=>?sbp22)
      case sap22=>
       refine pstep_mid rfl _ _ _ rfl rfl rA (a*6) T (by rfl) (by rfl) (by rw [HTQ.out.size]; exact HTH.out) (by exact HTQ.out.inf) (by exact HTQ.out.one) ?_
       refine hK.out _ _ ?_ fun hT=>?_
       ·exact trivial
       replace hS:=hT;clear hT hK K;try simp only [Act.put,zs1,zs2,zs3]
       refine zR 8 fun K hK=>?_
       go_simp;refine hK.out _ _ ?_ fun hT=>?_
       ·exact trivial
       replace hS:=hT;clear hT hK K;try simp only [Act.put,zs1,zs2,zs3]
       refine wpAnyH_done (by kernel_rfl) ?_ _
       have HRQ:=HR7
       clear HR7 HR8 HTH HTH8 kl fl klp flp;generalize (w11.setCells rA (a*6) T.toList).setCell ⟨PL,0,none⟩ (.slice (some ⟨rA,0,none⟩) (a+1) capA)=wc at*;have HM1:Hid (lenOf P wc < lenOf P wr):=by show _ < _; rw [HRQ.out.ps.len,HLN.out]; exact HLL.out
       have HM2:Hid (l4.length≤m'):=by have h1:=HLL.out; have h2:=HM.out; simp only [List.length_cons] at h1; show _≤_; omega
       have HM3:Hid (a+1+l4.length≤4097):=by have h1:=HLL.out; have h2:=hln.out; show _≤_; omega
       have HAC:Hid ((acc.app x1.one).len=a+1):=by show _=_; rw [Fo.app_len,hacc.out]; rfl
       go_wp2_with fail;go_roundw
       case rel=>exact ⟨l4,acc.app x1.one,m',some ⟨rA,0,none⟩,a+1,capA,HAC.out,HRQ.out.ps,HRQ.out.bl,HRQ.out.ll,HRQ.out.la,HRQ.out.le,HRQ.out.kr,(by show proL (sbP 64).1 m' (acc.app x1.one) l4=R; rw [HSTE.out]; exact HRR.out.symm),HM2.out,HM3.out⟩
       case measure=>exact HM1.out
      case sbp22=>
       go_simp;refine hK.out _ _ ?_ fun hT=>?_
       ·exact trivial
       replace hS:=hT;clear hT hK K;try simp only [Act.put,zs1,zs2,zs3]
       refine zR 7 fun K hK=>?_
       refine pstep_mid rfl _ _ _ rfl rfl rA (a*6) T (by rfl) (by rfl) (by rw [HTQ.out.size]; exact HTH8.out) (by exact HTQ.out.inf) (by exact HTQ.out.one) ?_
       refine hK.out _ _ ?_ fun hT=>?_
       ·exact trivial
       replace hS:=hT;clear hT hK K;try simp only [Act.put,zs1,zs2,zs3]
       refine wpAnyH_done (by kernel_rfl) ?_ _
       have HRQ:=HR8
       clear HR7 HR8 HTH HTH8 kl fl klp flp;generalize (w11.setCell ⟨PL,0,none⟩ (.slice (some ⟨rA,0,none⟩) (a+1) capA)).setCells rA (a*6) T.toList=wc at*;have HM1:Hid (lenOf P wc < lenOf P wr):=by show _ < _; rw [HRQ.out.ps.len,HLN.out]; exact HLL.out
       have HM2:Hid (l4.length≤m'):=by have h1:=HLL.out; have h2:=HM.out; simp only [List.length_cons] at h1; show _≤_; omega
       have HM3:Hid (a+1+l4.length≤4097):=by have h1:=HLL.out; have h2:=hln.out; show _≤_; omega
       have HAC:Hid ((acc.app x1.one).len=a+1):=by show _=_; rw [Fo.app_len,hacc.out]; rfl
       go_wp2_with fail;go_roundw
       case rel=>exact ⟨l4,acc.app x1.one,m',some ⟨rA,0,none⟩,a+1,capA,HAC.out,HRQ.out.ps,HRQ.out.bl,HRQ.out.ll,HRQ.out.la,HRQ.out.le,HRQ.out.kr,(by show proL (sbP 64).1 m' (acc.app x1.one) l4=R; rw [HSTE.out]; exact HRR.out.symm),HM2.out,HM3.out⟩
       case measure=>exact HM1.out
     case sbp17=>
      refine pstep_oneN el_syn rfl rfl (T:=zNd.toArray) rfl (by rfl) ?_
      refine hK.out _ _ ?_ fun hT=>?_
      ·exact trivial
      replace hS:=hT;clear hT hK K;try simp only [Act.put,zs1,zs2,zs3]
      refine zR 0 fun K hK=>?_
      go_simp;refine hK.out _ _ ?_ fun hT=>?_
      ·exact trivial
      replace hS:=hT;clear hT hK K;try simp only [Act.put,zs1,zs2,zs3]
      refine wpAnyH_take (i:=3) (oi:=⟨some 28,Op.call { callee:=Callee.builtin Builtin.len,args:=#[Operand.tmp 25],argTypes:=#[22] },3,_,_,none⟩) (v:=?vp26) rfl (by kernel_rfl) (by kernel_rfl) (by kernel_rfl) (fun _ _ _ h=>post_put (by decide) h) (Or.inl ⟨by rfl,?yp26⟩) hS ?rp26
      case yp26=>(intro w hSw; (try dsimp only at hSw); go_simp; try with_reducible rfl)
      try simp only [Act.put,zs1,zs2,zs3]
      have hbq:=(Below.refl w9.heap.size w9).alloc (Nat.le_refl _) (.cells zNd.toArray 31)
      have HZQ:=zH (Blk.new w9 31 zNd.toArray)
      have HSQ:=zH (HS9.out.ext hbq)
      have HZS:Hid (wd.heap.size≤wd.heap.size):=Nat.le_refl _
      have HTQ:Hid (NdV (maskW (fun k=>frS (P+1) k&&decide ((.slice x a c1:Value).ownBlock≠some k)) (w9.alloc (.cells zNd.toArray 31))) T x1):=HT.out.sub (MSub.csub fun k hk hS=>⟨by
        have h1:=HSD.out.ps.lt
        simp only [frS,decide_eq_true_eq,Bool.and_eq_true] at hS ⊢;refine ⟨by have h2:=HZS.out; omega,fun he=>by have h3:=HOL.out k he; have h2:=HZS.out; omega⟩,Below.heap_alloc _ _ _ hk⟩)
      clear hbq HS9 HT HB9 k9 k9z HSI HZS;generalize (w9.alloc (.cells zNd.toArray 31))=wq at*;generalize w9.heap.size=KQ at*;clear HSZ k8 k8z HOL;refine zR 5 fun K hK=>?_
      refine pstep_app0 (n:=a) el_syn HSQ.out.kr hacc.out (fun k hk=>by have h1:=HSQ.out.ps.lt; simp only [frS,decide_eq_true_eq]; omega) HTQ.out (by have h1:=HSQ.out.ps.lt; omega) HZQ.out rfl rfl (by rfl) (by rfl) (by omega) (by unfold maxLen; omega) ?_
      intro rA capA w11 xs hxs how hou hSr hmore;refine hK.out _ _ ?_ fun hT=>?_
      ·exact trivial
      replace hS:=hT;clear hT hK K;try simp only [Act.put,zs1,zs2,zs3]
      have hrp:P+1≤rA:=by simpa only [frS,decide_eq_true_eq] using hSr
      have hrp2:=HPP.out
      have hq1:(a:Int) < (a:Int)+1:=by omega
      have hq2:(a:Int) < ((a+1:Nat):Int):=by omega
      have hl11:Blk w11 PL 22 #[.slice x a c1]:=hou.blk HSQ.out.ll (by simp only [frS,decide_eq_false_iff_not]; omega)
      have kl:w11.cell? ⟨PL,0,none⟩=some (.slice x a c1):=hl11.cell 0
      have fl:w11.frozen? ⟨PL,0,none⟩=false:=hl11.frozen 0
      have hput:=own_put T.toList zNd xs w11 (by simp [zNd,HTQ.out.size]) how
      rw [hxs] at hput;have hlp:Blk (w11.setCells rA (a*6) T.toList) PL 22 #[.slice x a c1]:=(hput.2.block PL hl11.lt (by simp; omega)).trans hl11
      have klp:(w11.setCells rA (a*6) T.toList).cell? ⟨PL,0,none⟩=some (.slice x a c1):=hlp.cell 0
      have flp:(w11.setCells rA (a*6) T.toList).frozen? ⟨PL,0,none⟩=false:=hlp.frozen 0
      have how8:=own_keep (w':=(w11.setCell ⟨PL,0,none⟩ (.slice (some ⟨rA,0,none⟩) (a+1) capA))) how (fun k hk _=>Below.heap_setCell _ _ _ k (by simp [Value.ownBlock] at hk; simp; omega))
      have hput8:=own_put T.toList zNd xs (w11.setCell ⟨PL,0,none⟩ (.slice (some ⟨rA,0,none⟩) (a+1) capA)) (by simp [zNd,HTQ.out.size]) how8
      rw [hxs] at hput8;have how7:=own_keep (w':=(w11.setCells rA (a*6) T.toList).setCell ⟨PL,0,none⟩ (.slice (some ⟨rA,0,none⟩) (a+1) capA)) hput.1 (fun k hk _=>Below.heap_setCell _ _ _ k (by simp [Value.ownBlock] at hk; simp; omega))
      have hrs7:PSt PL P a w ((w11.setCells rA (a*6) T.toList).setCell ⟨PL,0,none⟩ (.slice (some ⟨rA,0,none⟩) (a+1) capA)) l4 (.slice (some ⟨rA,0,none⟩) (a+1) capA) (acc.app x1.one):=
       HSQ.out.last HPP.out hou hSr hmore hput.2.os hput.2.tape hput.2.output (by simpa [World.setCell] using hput.2.size) (fun k hk h1 h2=>(Below.heap_setCell _ _ _ k h2).trans (hput.2.block k hk (by simp; exact h1))) (hlp.put 0 _) how7
      have hrs8:PSt PL P a w ((w11.setCell ⟨PL,0,none⟩ (.slice (some ⟨rA,0,none⟩) (a+1) capA)).setCells rA (a*6) T.toList) l4 (.slice (some ⟨rA,0,none⟩) (a+1) capA) (acc.app x1.one):=
       HSQ.out.last HPP.out hou hSr hmore hput8.2.os hput8.2.tape hput8.2.output (by have h1:=hput8.2.size; simpa [World.setCell] using h1) (fun k hk h1 h2=>(hput8.2.block k (by simpa [World.setCell] using hk) (by simp; exact h1)).trans (Below.heap_setCell _ _ _ k h2)) ((hput8.2.block PL (by simpa [World.setCell] using hl11.lt) (by simp; omega)).trans (hl11.put 0 _)) hput8.1
      have HR7:=zH hrs7
      have HR8:=zH hrs8
      have HTH:=zH (own_there how (m:=a*6) (by omega))
      have HTH8:=zH (own_there how8 (m:=a*6) (by omega))
      clear hrs7 hrs8 how how7 how8 hput hput8 hlp hl11 hmore hou hSr hxs;refine wpAnyH_take (i:=6) (oi:=⟨some 31,Op.indexAddr 22 (Operand.tmp 30) (Operand.tmp 28),0,_,_,none⟩) (v:=?vp28) rfl (by kernel_rfl) (by kernel_rfl) (by kernel_rfl) (fun _ _ _ h=>post_put (by decide) h) (Or.inl ⟨by rfl,?yp28⟩) hS ?rp28
      case yp28=>(intro w hSw; (try dsimp only at hSw); go_simp; try with_reducible rfl)
      try simp only [Act.put,zs1,zs2,zs3]
      refine zF 7 8 (fun K hK=>?sap29) (fun K hK=>?sbp29)
      case sap29=>
       refine pstep_mid rfl _ _ _ rfl rfl rA (a*6) T (by rfl) (by rfl) (by rw [HTQ.out.size]; exact HTH.out) (by exact HTQ.out.inf) (by exact HTQ.out.one) ?_
       refine hK.out _ _ ?_ fun hT=>?_
       ·exact trivial
       replace hS:=hT;clear hT hK K;try simp only [Act.put,zs1,zs2,zs3]
       refine zR 8 fun K hK=>?_
       go_simp;refine hK.out _ _ ?_ fun hT=>?_
       ·exact trivial
       replace hS:=hT;clear hT hK K;try simp only [Act.put,zs1,zs2,zs3]
       refine wpAnyH_done (by kernel_rfl) ?_ _
       have HRQ:=HR7
       clear HR7 HR8 HTH HTH8 kl fl klp flp;generalize (w11.setCells rA (a*6) T.toList).setCell ⟨PL,0,none⟩ (.slice (some ⟨rA,0,none⟩) (a+1) capA)=wc at*;have HM1:Hid (lenOf P wc < lenOf P wr):=by show _ < _; rw [HRQ.out.ps.len,HLN.out]; exact HLL.out
       have HM2:Hid (l4.length≤m'):=by have h1:=HLL.out; have h2:=HM.out; simp only [List.length_cons] at h1; show _≤_; omega
       have HM3:Hid (a+1+l4.length≤4097):=by have h1:=HLL.out; have h2:=hln.out; show _≤_; omega
       have HAC:Hid ((acc.app x1.one).len=a+1):=by show _=_; rw [Fo.app_len,hacc.out]; rfl
       go_wp2_with fail;go_roundw
       case rel=>exact ⟨l4,acc.app x1.one,m',some ⟨rA,0,none⟩,a+1,capA,HAC.out,HRQ.out.ps,HRQ.out.bl,HRQ.out.ll,HRQ.out.la,HRQ.out.le,HRQ.out.kr,(by show proL (sbP 64).1 m' (acc.app x1.one) l4=R; rw [HSTE.out]; exact HRR.out.symm),HM2.out,HM3.out⟩
       case measure=>exact HM1.out
      case sbp29=>
       go_simp;refine hK.out _ _ ?_ fun hT=>?_
       ·exact trivial
       replace hS:=hT;clear hT hK K;try simp only [Act.put,zs1,zs2,zs3]
       refine zR 7 fun K hK=>?_
       refine pstep_mid rfl _ _ _ rfl rfl rA (a*6) T (by rfl) (by rfl) (by rw [HTQ.out.size]; exact HTH8.out) (by exact HTQ.out.inf) (by exact HTQ.out.one) ?_
       refine hK.out _ _ ?_ fun hT=>?_
       ·exact trivial
       replace hS:=hT;clear hT hK K;try simp only [Act.put,zs1,zs2,zs3]
       refine wpAnyH_done (by kernel_rfl) ?_ _
       have HRQ:=HR8
       clear HR7 HR8 HTH HTH8 kl fl klp flp;generalize (w11.setCell ⟨PL,0,none⟩ (.slice (some ⟨rA,0,none⟩) (a+1) capA)).setCells rA (a*6) T.toList=wc at*;have HM1:Hid (lenOf P wc < lenOf P wr):=by show _ < _; rw [HRQ.out.ps.len,HLN.out]; exact HLL.out
       have HM2:Hid (l4.length≤m'):=by have h1:=HLL.out; have h2:=HM.out; simp only [List.length_cons] at h1; show _≤_; omega
       have HM3:Hid (a+1+l4.length≤4097):=by have h1:=HLL.out; have h2:=hln.out; show _≤_; omega
       have HAC:Hid ((acc.app x1.one).len=a+1):=by show _=_; rw [Fo.app_len,hacc.out]; rfl
       go_wp2_with fail;go_roundw
       case rel=>exact ⟨l4,acc.app x1.one,m',some ⟨rA,0,none⟩,a+1,capA,HAC.out,HRQ.out.ps,HRQ.out.bl,HRQ.out.ll,HRQ.out.la,HRQ.out.le,HRQ.out.kr,(by show proL (sbP 64).1 m' (acc.app x1.one) l4=R; rw [HSTE.out]; exact HRR.out.symm),HM2.out,HM3.out⟩
       case measure=>exact HM1.out
    case scp2=>
     refine pstep_oneN el_syn rfl rfl (T:=zNd.toArray) rfl (by rfl) ?_
     refine hK.out _ _ ?_ fun hT=>?_
     ·exact trivial
     replace hS:=hT;clear hT hK K;try simp only [Act.put,zs1,zs2,zs3]
     refine zF 0 2 (fun K hK=>?sap32) (fun K hK=>?sbp32)
     case sap32=>
      go_simp;refine hK.out _ _ ?_ fun hT=>?_
      ·exact trivial
      replace hS:=hT;clear hT hK K;try simp only [Act.put,zs1,zs2,zs3]
      refine wpAnyH_take (i:=3) (oi:=⟨some 28,Op.call { callee:=Callee.builtin Builtin.len,args:=#[Operand.tmp 25],argTypes:=#[22] },3,_,_,none⟩) (v:=?vp33) rfl (by kernel_rfl) (by kernel_rfl) (by kernel_rfl) (fun _ _ _ h=>post_put (by decide) h) (Or.inl ⟨by rfl,?yp33⟩) hS ?rp33
      case yp33=>(intro w hSw; (try dsimp only at hSw); go_simp; try with_reducible rfl)
      try simp only [Act.put,zs1,zs2,zs3]
      refine zR 2 fun K hK=>?_
      go_simp;refine HCZ.out.mono ?_;intro e w9 h;obtain ⟨hb9,h⟩:=h;rcases hRR:st (t2::r2) with y | ⟨x1,l4⟩
      ·rw [hRR] at h
       obtain rfl:=h
       have HRR:=zH (HRE.out _ hRR)
       have HB9:=zH hb9
       have HL9:=zH (hb9.blk HSZ.out.ll (by have h1:=HPP.out; omega))
       have HA9:=zH (hb9.blk HSZ.out.la (by have h1:=HPP.out; omega))
       have HE9:=zH (hb9.blk HSZ.out.le (by have h1:=HPP.out; omega))
       clear hRR hb9 HRE HRO HCN HCZ;go_wp2_with fail;refine pro_panic rfl rfl rfl HL9.out HA9.out HE9.out fun wq hb=>⟨by rw [HRR.out]; rfl,?_⟩
       rw [HPL.out];exact HSZ.out.fail HPP.out HB9.out hb
      rw [hRR] at h;obtain ⟨⟨T,rfl,hT⟩,hp9⟩:=h;have HRR:=zH (HRO.out _ _ hRR);have HLL:Hid (l4.length < (t2::r2).length):=HSH.out _ _ _ hRR;have HS9:=zH (HSZ.out.but HPP.out hb9 hp9);have HSI:Hid (wd.heap.size≤w9.heap.size):=Nat.le_trans (by first | exact Nat.le_refl _ | simp) hb9.size
      have k9:w9.cell? ⟨PL,0,none⟩=some (.slice x a c1):=HS9.out.ll.cell 0
      have k9z:(w9.alloc (.cells zNd.toArray 31)).cell? ⟨PL,0,none⟩=some (.slice x a c1):=(HS9.out.ll.alloc _).cell 0
      have HT:=zH hT
      have HB9:=zH hb9
      clear hRR hb9 hp9 hT HRE HRO HCN HCZ;refine hK.out _ _ ?_ fun hT=>?_
      ·exact trivial
      replace hS:=hT;clear hT hK K;try simp only [Act.put,zs1,zs2,zs3]
      have HZQ:Hid (Blk w9 wd.heap.size 31 zNd.toArray):=HB9.out.blk HZZ.out (Nat.ne_of_gt HSD.out.ps.lt)
      have HSQ:=HS9
      have HZS:Hid (wd.heap.size≤(wd.alloc (.cells zNd.toArray 31)).heap.size):=by show _≤_; simp
      have HTQ:Hid (NdV (maskW (fun k=>frS (P+1) k&&decide ((.slice x a c1:Value).ownBlock≠some k)) w9) T x1):=HT.out.sub (MSub.csub fun k hk hS=>⟨by
        have h1:=HSD.out.ps.lt
        simp only [frS,decide_eq_true_eq,Bool.and_eq_true] at hS ⊢;refine ⟨by have h2:=HZS.out; omega,fun he=>by have h3:=HOL.out k he; have h2:=HZS.out; omega⟩,rfl⟩)
      clear HS9 HT HB9 k9 k9z HSI HZS HZZ;generalize wd.heap.size=KQ at*;generalize w9=wq at*;clear HSZ k8 k8z HOL;refine zR 5 fun K hK=>?_
      refine pstep_app0 (n:=a) el_syn HSQ.out.kr hacc.out (fun k hk=>by have h1:=HSQ.out.ps.lt; simp only [frS,decide_eq_true_eq]; omega) HTQ.out (by have h1:=HSQ.out.ps.lt; omega) HZQ.out rfl rfl (by rfl) (by rfl) (by omega) (by unfold maxLen; omega) ?_
      intro rA capA w11 xs hxs how hou hSr hmore;refine hK.out _ _ ?_ fun hT=>?_
      ·exact trivial
      replace hS:=hT;clear hT hK K;try simp only [Act.put,zs1,zs2,zs3]
      have hrp:P+1≤rA:=by simpa only [frS,decide_eq_true_eq] using hSr
      have hrp2:=HPP.out
      have hq1:(a:Int) < (a:Int)+1:=by omega
      have hq2:(a:Int) < ((a+1:Nat):Int):=by omega
      have hl11:Blk w11 PL 22 #[.slice x a c1]:=hou.blk HSQ.out.ll (by simp only [frS,decide_eq_false_iff_not]; omega)
      have kl:w11.cell? ⟨PL,0,none⟩=some (.slice x a c1):=hl11.cell 0
      have fl:w11.frozen? ⟨PL,0,none⟩=false:=hl11.frozen 0
      have hput:=own_put T.toList zNd xs w11 (by simp [zNd,HTQ.out.size]) how
      rw [hxs] at hput;have hlp:Blk (w11.setCells rA (a*6) T.toList) PL 22 #[.slice x a c1]:=(hput.2.block PL hl11.lt (by simp; omega)).trans hl11
      have klp:(w11.setCells rA (a*6) T.toList).cell? ⟨PL,0,none⟩=some (.slice x a c1):=hlp.cell 0
      have flp:(w11.setCells rA (a*6) T.toList).frozen? ⟨PL,0,none⟩=false:=hlp.frozen 0
      have how8:=own_keep (w':=(w11.setCell ⟨PL,0,none⟩ (.slice (some ⟨rA,0,none⟩) (a+1) capA))) how (fun k hk _=>Below.heap_setCell _ _ _ k (by simp [Value.ownBlock] at hk; simp; omega))
      have hput8:=own_put T.toList zNd xs (w11.setCell ⟨PL,0,none⟩ (.slice (some ⟨rA,0,none⟩) (a+1) capA)) (by simp [zNd,HTQ.out.size]) how8
      rw [hxs] at hput8;have how7:=own_keep (w':=(w11.setCells rA (a*6) T.toList).setCell ⟨PL,0,none⟩ (.slice (some ⟨rA,0,none⟩) (a+1) capA)) hput.1 (fun k hk _=>Below.heap_setCell _ _ _ k (by simp [Value.ownBlock] at hk; simp; omega))
      have hrs7:PSt PL P a w ((w11.setCells rA (a*6) T.toList).setCell ⟨PL,0,none⟩ (.slice (some ⟨rA,0,none⟩) (a+1) capA)) l4 (.slice (some ⟨rA,0,none⟩) (a+1) capA) (acc.app x1.one):=
       HSQ.out.last HPP.out hou hSr hmore hput.2.os hput.2.tape hput.2.output (by simpa [World.setCell] using hput.2.size) (fun k hk h1 h2=>(Below.heap_setCell _ _ _ k h2).trans (hput.2.block k hk (by simp; exact h1))) (hlp.put 0 _) how7
      have hrs8:PSt PL P a w ((w11.setCell ⟨PL,0,none⟩ (.slice (some ⟨rA,0,none⟩) (a+1) capA)).setCells rA (a*6) T.toList) l4 (.slice (some ⟨rA,0,none⟩) (a+1) capA) (acc.app x1.one):=
       HSQ.out.last HPP.out hou hSr hmore hput8.2.os hput8.2.tape hput8.2.output (by have h1:=hput8.2.size; simpa [World.setCell] using h1) (fun k hk h1 h2=>(hput8.2.block k (by simpa [World.setCell] using hk) (by simp; exact h1)).trans (Below.heap_setCell _ _ _ k h2)) ((hput8.2.block PL (by simpa [World.setCell] using hl11.lt) (by simp; omega)).trans (hl11.put 0 _)) hput8.1
      have HR7:=zH hrs7
      have HR8:=zH hrs8
      have HTH:=zH (own_there how (m:=a*6) (by omega))
      have HTH8:=zH (own_there how8 (m:=a*6) (by omega))
      clear hrs7 hrs8 how how7 how8 hput hput8 hlp hl11 hmore hou hSr hxs;refine wpAnyH_take (i:=6) (oi:=⟨some 31,Op.indexAddr 22 (Operand.tmp 30) (Operand.tmp 28),0,_,_,none⟩) (v:=?vp36) rfl (by kernel_rfl) (by kernel_rfl) (by kernel_rfl) (fun _ _ _ h=>post_put (by decide) h) (Or.inl ⟨by rfl,?yp36⟩) hS ?rp36
      case yp36=>(intro w hSw; (try dsimp only at hSw); go_simp; try with_reducible rfl)
      try simp only [Act.put,zs1,zs2,zs3]
      refine zF 7 8 (fun K hK=>?sap37) (fun K hK=>?sbp37)
      case sap37=>
       refine pstep_mid rfl _ _ _ rfl rfl rA (a*6) T (by rfl) (by rfl) (by rw [HTQ.out.size]; exact HTH.out) (by exact HTQ.out.inf) (by exact HTQ.out.one) ?_
       refine hK.out _ _ ?_ fun hT=>?_
       ·exact trivial
       replace hS:=hT;clear hT hK K;try simp only [Act.put,zs1,zs2,zs3]
       refine zR 8 fun K hK=>?_
       go_simp;refine hK.out _ _ ?_ fun hT=>?_
       ·exact trivial
       replace hS:=hT;clear hT hK K;try simp only [Act.put,zs1,zs2,zs3]
       refine wpAnyH_done (by kernel_rfl) ?_ _
       have HRQ:=HR7
       clear HR7 HR8 HTH HTH8 kl fl klp flp;generalize (w11.setCells rA (a*6) T.toList).setCell ⟨PL,0,none⟩ (.slice (some ⟨rA,0,none⟩) (a+1) capA)=wc at*;have HM1:Hid (lenOf P wc < lenOf P wr):=by show _ < _; rw [HRQ.out.ps.len,HLN.out]; exact HLL.out
       have HM2:Hid (l4.length≤m'):=by have h1:=HLL.out; have h2:=HM.out; simp only [List.length_cons] at h1; show _≤_; omega
       have HM3:Hid (a+1+l4.length≤4097):=by have h1:=HLL.out; have h2:=hln.out; show _≤_; omega
       have HAC:Hid ((acc.app x1.one).len=a+1):=by show _=_; rw [Fo.app_len,hacc.out]; rfl
       go_wp2_with fail;go_roundw
       case rel=>exact ⟨l4,acc.app x1.one,m',some ⟨rA,0,none⟩,a+1,capA,HAC.out,HRQ.out.ps,HRQ.out.bl,HRQ.out.ll,HRQ.out.la,HRQ.out.le,HRQ.out.kr,(by show proL (sbP 64).1 m' (acc.app x1.one) l4=R; rw [HSTE.out]; exact HRR.out.symm),HM2.out,HM3.out⟩
       case measure=>exact HM1.out
      case sbp37=>
       go_simp;refine hK.out _ _ ?_ fun hT=>?_
       ·exact trivial
       replace hS:=hT;clear hT hK K;try simp only [Act.put,zs1,zs2,zs3]
       refine zR 7 fun K hK=>?_
       refine pstep_mid rfl _ _ _ rfl rfl rA (a*6) T (by rfl) (by rfl) (by rw [HTQ.out.size]; exact HTH8.out) (by exact HTQ.out.inf) (by exact HTQ.out.one) ?_
       refine hK.out _ _ ?_ fun hT=>?_
       ·exact trivial
       replace hS:=hT;clear hT hK K;try simp only [Act.put,zs1,zs2,zs3]
       refine wpAnyH_done (by kernel_rfl) ?_ _
       have HRQ:=HR8
       clear HR7 HR8 HTH HTH8 kl fl klp flp;generalize (w11.setCell ⟨PL,0,none⟩ (.slice (some ⟨rA,0,none⟩) (a+1) capA)).setCells rA (a*6) T.toList=wc at*;have HM1:Hid (lenOf P wc < lenOf P wr):=by show _ < _; rw [HRQ.out.ps.len,HLN.out]; exact HLL.out
       have HM2:Hid (l4.length≤m'):=by have h1:=HLL.out; have h2:=HM.out; simp only [List.length_cons] at h1; show _≤_; omega
       have HM3:Hid (a+1+l4.length≤4097):=by have h1:=HLL.out; have h2:=hln.out; show _≤_; omega
       have HAC:Hid ((acc.app x1.one).len=a+1):=by show _=_; rw [Fo.app_len,hacc.out]; rfl
       go_wp2_with fail;go_roundw
       case rel=>exact ⟨l4,acc.app x1.one,m',some ⟨rA,0,none⟩,a+1,capA,HAC.out,HRQ.out.ps,HRQ.out.bl,HRQ.out.ll,HRQ.out.la,HRQ.out.le,HRQ.out.kr,(by show proL (sbP 64).1 m' (acc.app x1.one) l4=R; rw [HSTE.out]; exact HRR.out.symm),HM2.out,HM3.out⟩
       case measure=>exact HM1.out
     case sbp32=>
      go_simp;refine HCZ.out.mono ?_;intro e w9 h;obtain ⟨hb9,h⟩:=h;rcases hRR:st (t2::r2) with y | ⟨x1,l4⟩
      ·rw [hRR] at h
       obtain rfl:=h
       have HRR:=zH (HRE.out _ hRR)
       have HB9:=zH hb9
       have HL9:=zH (hb9.blk HSZ.out.ll (by have h1:=HPP.out; omega))
       have HA9:=zH (hb9.blk HSZ.out.la (by have h1:=HPP.out; omega))
       have HE9:=zH (hb9.blk HSZ.out.le (by have h1:=HPP.out; omega))
       clear hRR hb9 HRE HRO HCN HCZ;go_wp2_with fail;refine pro_panic rfl rfl rfl HL9.out HA9.out HE9.out fun wq hb=>⟨by rw [HRR.out]; rfl,?_⟩
       rw [HPL.out];exact HSZ.out.fail HPP.out HB9.out hb
      rw [hRR] at h;obtain ⟨⟨T,rfl,hT⟩,hp9⟩:=h;have HRR:=zH (HRO.out _ _ hRR);have HLL:Hid (l4.length < (t2::r2).length):=HSH.out _ _ _ hRR;have HS9:=zH (HSZ.out.but HPP.out hb9 hp9);have HSI:Hid (wd.heap.size≤w9.heap.size):=Nat.le_trans (by first | exact Nat.le_refl _ | simp) hb9.size
      have k9:w9.cell? ⟨PL,0,none⟩=some (.slice x a c1):=HS9.out.ll.cell 0
      have k9z:(w9.alloc (.cells zNd.toArray 31)).cell? ⟨PL,0,none⟩=some (.slice x a c1):=(HS9.out.ll.alloc _).cell 0
      have HT:=zH hT
      have HB9:=zH hb9
      clear hRR hb9 hp9 hT HRE HRO HCN HCZ;refine hK.out _ _ ?_ fun hT=>?_
      ·exact trivial
      replace hS:=hT;clear hT hK K;try simp only [Act.put,zs1,zs2,zs3]
      refine zR 0 fun K hK=>?_
      go_simp;refine hK.out _ _ ?_ fun hT=>?_
      ·exact trivial
      replace hS:=hT;clear hT hK K;try simp only [Act.put,zs1,zs2,zs3]
      refine wpAnyH_take (i:=3) (oi:=⟨some 28,Op.call { callee:=Callee.builtin Builtin.len,args:=#[Operand.tmp 25],argTypes:=#[22] },3,_,_,none⟩) (v:=?vp41) rfl (by kernel_rfl) (by kernel_rfl) (by kernel_rfl) (fun _ _ _ h=>post_put (by decide) h) (Or.inl ⟨by rfl,?yp41⟩) hS ?rp41
      case yp41=>(intro w hSw; (try dsimp only at hSw); go_simp; try with_reducible rfl)
      try simp only [Act.put,zs1,zs2,zs3]
      have HZQ:Hid (Blk w9 wd.heap.size 31 zNd.toArray):=HB9.out.blk HZZ.out (Nat.ne_of_gt HSD.out.ps.lt)
      have HSQ:=HS9
      have HZS:Hid (wd.heap.size≤(wd.alloc (.cells zNd.toArray 31)).heap.size):=by show _≤_; simp
      have HTQ:Hid (NdV (maskW (fun k=>frS (P+1) k&&decide ((.slice x a c1:Value).ownBlock≠some k)) w9) T x1):=HT.out.sub (MSub.csub fun k hk hS=>⟨by
        have h1:=HSD.out.ps.lt
        simp only [frS,decide_eq_true_eq,Bool.and_eq_true] at hS ⊢;refine ⟨by have h2:=HZS.out; omega,fun he=>by have h3:=HOL.out k he; have h2:=HZS.out; omega⟩,rfl⟩)
      clear HS9 HT HB9 k9 k9z HSI HZS HZZ;generalize wd.heap.size=KQ at*;generalize w9=wq at*;clear HSZ k8 k8z HOL;refine zR 5 fun K hK=>?_
      refine pstep_app0 (n:=a) el_syn HSQ.out.kr hacc.out (fun k hk=>by have h1:=HSQ.out.ps.lt; simp only [frS,decide_eq_true_eq]; omega) HTQ.out (by have h1:=HSQ.out.ps.lt; omega) HZQ.out rfl rfl (by rfl) (by rfl) (by omega) (by unfold maxLen; omega) ?_
      intro rA capA w11 xs hxs how hou hSr hmore;refine hK.out _ _ ?_ fun hT=>?_
      ·exact trivial
      replace hS:=hT;clear hT hK K;try simp only [Act.put,zs1,zs2,zs3]
      have hrp:P+1≤rA:=by simpa only [frS,decide_eq_true_eq] using hSr
      have hrp2:=HPP.out
      have hq1:(a:Int) < (a:Int)+1:=by omega
      have hq2:(a:Int) < ((a+1:Nat):Int):=by omega
      have hl11:Blk w11 PL 22 #[.slice x a c1]:=hou.blk HSQ.out.ll (by simp only [frS,decide_eq_false_iff_not]; omega)
      have kl:w11.cell? ⟨PL,0,none⟩=some (.slice x a c1):=hl11.cell 0
      have fl:w11.frozen? ⟨PL,0,none⟩=false:=hl11.frozen 0
      have hput:=own_put T.toList zNd xs w11 (by simp [zNd,HTQ.out.size]) how
      rw [hxs] at hput;have hlp:Blk (w11.setCells rA (a*6) T.toList) PL 22 #[.slice x a c1]:=(hput.2.block PL hl11.lt (by simp; omega)).trans hl11
      have klp:(w11.setCells rA (a*6) T.toList).cell? ⟨PL,0,none⟩=some (.slice x a c1):=hlp.cell 0
      have flp:(w11.setCells rA (a*6) T.toList).frozen? ⟨PL,0,none⟩=false:=hlp.frozen 0
      have how8:=own_keep (w':=(w11.setCell ⟨PL,0,none⟩ (.slice (some ⟨rA,0,none⟩) (a+1) capA))) how (fun k hk _=>Below.heap_setCell _ _ _ k (by simp [Value.ownBlock] at hk; simp; omega))
      have hput8:=own_put T.toList zNd xs (w11.setCell ⟨PL,0,none⟩ (.slice (some ⟨rA,0,none⟩) (a+1) capA)) (by simp [zNd,HTQ.out.size]) how8
      rw [hxs] at hput8;have how7:=own_keep (w':=(w11.setCells rA (a*6) T.toList).setCell ⟨PL,0,none⟩ (.slice (some ⟨rA,0,none⟩) (a+1) capA)) hput.1 (fun k hk _=>Below.heap_setCell _ _ _ k (by simp [Value.ownBlock] at hk; simp; omega))
      have hrs7:PSt PL P a w ((w11.setCells rA (a*6) T.toList).setCell ⟨PL,0,none⟩ (.slice (some ⟨rA,0,none⟩) (a+1) capA)) l4 (.slice (some ⟨rA,0,none⟩) (a+1) capA) (acc.app x1.one):=
       HSQ.out.last HPP.out hou hSr hmore hput.2.os hput.2.tape hput.2.output (by simpa [World.setCell] using hput.2.size) (fun k hk h1 h2=>(Below.heap_setCell _ _ _ k h2).trans (hput.2.block k hk (by simp; exact h1))) (hlp.put 0 _) how7
      have hrs8:PSt PL P a w ((w11.setCell ⟨PL,0,none⟩ (.slice (some ⟨rA,0,none⟩) (a+1) capA)).setCells rA (a*6) T.toList) l4 (.slice (some ⟨rA,0,none⟩) (a+1) capA) (acc.app x1.one):=
       HSQ.out.last HPP.out hou hSr hmore hput8.2.os hput8.2.tape hput8.2.output (by have h1:=hput8.2.size; simpa [World.setCell] using h1) (fun k hk h1 h2=>(hput8.2.block k (by simpa [World.setCell] using hk) (by simp; exact h1)).trans (Below.heap_setCell _ _ _ k h2)) ((hput8.2.block PL (by simpa [World.setCell] using hl11.lt) (by simp; omega)).trans (hl11.put 0 _)) hput8.1
      have HR7:=zH hrs7
      have HR8:=zH hrs8
      have HTH:=zH (own_there how (m:=a*6) (by omega))
      have HTH8:=zH (own_there how8 (m:=a*6) (by omega))
      clear hrs7 hrs8 how how7 how8 hput hput8 hlp hl11 hmore hou hSr hxs;refine wpAnyH_take (i:=6) (oi:=⟨some 31,Op.indexAddr 22 (Operand.tmp 30) (Operand.tmp 28),0,_,_,none⟩) (v:=?vp43) rfl (by kernel_rfl) (by kernel_rfl) (by kernel_rfl) (fun _ _ _ h=>post_put (by decide) h) (Or.inl ⟨by rfl,?yp43⟩) hS ?rp43
      case yp43=>(intro w hSw; (try dsimp only at hSw); go_simp; try with_reducible rfl)
      try simp only [Act.put,zs1,zs2,zs3]
      refine zF 7 8 (fun K hK=>?sap44) (fun K hK=>?sbp44)
      case sap44=>
       refine pstep_mid rfl _ _ _ rfl rfl rA (a*6) T (by rfl) (by rfl) (by rw [HTQ.out.size]; exact HTH.out) (by exact HTQ.out.inf) (by exact HTQ.out.one) ?_
       refine hK.out _ _ ?_ fun hT=>?_
       ·exact trivial
       replace hS:=hT;clear hT hK K;try simp only [Act.put,zs1,zs2,zs3]
       refine zR 8 fun K hK=>?_
       go_simp;refine hK.out _ _ ?_ fun hT=>?_
       ·exact trivial
       replace hS:=hT;clear hT hK K;try simp only [Act.put,zs1,zs2,zs3]
       refine wpAnyH_done (by kernel_rfl) ?_ _
       have HRQ:=HR7
       clear HR7 HR8 HTH HTH8 kl fl klp flp;generalize (w11.setCells rA (a*6) T.toList).setCell ⟨PL,0,none⟩ (.slice (some ⟨rA,0,none⟩) (a+1) capA)=wc at*;have HM1:Hid (lenOf P wc < lenOf P wr):=by show _ < _; rw [HRQ.out.ps.len,HLN.out]; exact HLL.out
       have HM2:Hid (l4.length≤m'):=by have h1:=HLL.out; have h2:=HM.out; simp only [List.length_cons] at h1; show _≤_; omega
       have HM3:Hid (a+1+l4.length≤4097):=by have h1:=HLL.out; have h2:=hln.out; show _≤_; omega
       have HAC:Hid ((acc.app x1.one).len=a+1):=by show _=_; rw [Fo.app_len,hacc.out]; rfl
       go_wp2_with fail;go_roundw
       case rel=>exact ⟨l4,acc.app x1.one,m',some ⟨rA,0,none⟩,a+1,capA,HAC.out,HRQ.out.ps,HRQ.out.bl,HRQ.out.ll,HRQ.out.la,HRQ.out.le,HRQ.out.kr,(by show proL (sbP 64).1 m' (acc.app x1.one) l4=R; rw [HSTE.out]; exact HRR.out.symm),HM2.out,HM3.out⟩
       case measure=>exact HM1.out
      case sbp44=>
       go_simp;refine hK.out _ _ ?_ fun hT=>?_
       ·exact trivial
       replace hS:=hT;clear hT hK K;try simp only [Act.put,zs1,zs2,zs3]
       refine zR 7 fun K hK=>?_
       refine pstep_mid rfl _ _ _ rfl rfl rA (a*6) T (by rfl) (by rfl) (by rw [HTQ.out.size]; exact HTH8.out) (by exact HTQ.out.inf) (by exact HTQ.out.one) ?_
       refine hK.out _ _ ?_ fun hT=>?_
       ·exact trivial
       replace hS:=hT;clear hT hK K;try simp only [Act.put,zs1,zs2,zs3]
       refine wpAnyH_done (by kernel_rfl) ?_ _
       have HRQ:=HR8
       clear HR7 HR8 HTH HTH8 kl fl klp flp;generalize (w11.setCell ⟨PL,0,none⟩ (.slice (some ⟨rA,0,none⟩) (a+1) capA)).setCells rA (a*6) T.toList=wc at*;have HM1:Hid (lenOf P wc < lenOf P wr):=by show _ < _; rw [HRQ.out.ps.len,HLN.out]; exact HLL.out
       have HM2:Hid (l4.length≤m'):=by have h1:=HLL.out; have h2:=HM.out; simp only [List.length_cons] at h1; show _≤_; omega
       have HM3:Hid (a+1+l4.length≤4097):=by have h1:=HLL.out; have h2:=hln.out; show _≤_; omega
       have HAC:Hid ((acc.app x1.one).len=a+1):=by show _=_; rw [Fo.app_len,hacc.out]; rfl
       go_wp2_with fail;go_roundw
       case rel=>exact ⟨l4,acc.app x1.one,m',some ⟨rA,0,none⟩,a+1,capA,HAC.out,HRQ.out.ps,HRQ.out.bl,HRQ.out.ll,HRQ.out.la,HRQ.out.le,HRQ.out.kr,(by show proL (sbP 64).1 m' (acc.app x1.one) l4=R; rw [HSTE.out]; exact HRR.out.symm),HM2.out,HM3.out⟩
       case measure=>exact HM1.out
end Go.Proofs.YtbaidkefobhipaaGreatDoor
