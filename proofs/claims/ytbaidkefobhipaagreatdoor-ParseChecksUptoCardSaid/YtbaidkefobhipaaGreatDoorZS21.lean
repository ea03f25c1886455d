/-
  Walks: the strings.Builder within the printer (WriteString, Len, String), and put.
  A region that draws its order, whose operations only read old memory and whose callees may make memory of their own: walked once (the kit's theorem on quiet regions, at the class of the worlds that keep what lay below a block).
  Walks: the printer's put and indent.
  Walks: the printer's inner and list. (Printed by gen_pt2.py.)
-/
import Derived.Test.YtbaidkefobhipaaGreatDoorZPsh
import Derived.Test.YtbaidkefobhipaaGreatDoorZPro
import Derived.Shelf.Strings.Builder1
import Derived.Lib.Builder
import Derived.Laws.Externs
import Derived.Test.YtbaidkefobhipaaGreatDoorZS0
import Derived.BigQuiet
import Derived.Lib.LaidTab
import Derived.Test.YtbaidkefobhipaaGreatDoorProg
import Derived.Test.YtbaidkefobhipaaGreatDoorZS7
import Derived.Test.YtbaidkefobhipaaGreatDoorZS8
namespace Go.Proofs.YtbaidkefobhipaaGreatDoor
set_option maxHeartbeats 8000000
set_option maxRecDepth 100000
open Go.RowKit

def Prt (B b:Nat) (l:List UInt8) (w:World):Prop:=Lib.IsBuilder 63 5 B b (Lib.byteCells l) w
def PT:List TypeId:=[63,5]
theorem info_bl:∃j,Tryz.prog.info? 61=some j∧j.size≠0:=by
 obtain ⟨j,hj,hs⟩:=Option.map_eq_some_iff.1 (show (Tryz.prog.info? 61).map (·.size)=some 2 by kernel_rfl)
 exact ⟨j,hj,by rw [hs]; decide⟩
theorem lies_prt:liesAt Tryz.prog Tryz.prog.depth 63 (2 / Tryz.prog.cellsOf 63) 0 61 1=true:=by kernel_rfl

theorem pcopy_used (b:Nat) (w:World) (h0:w.cell? ⟨b,0,none⟩=some (.pointer (some ⟨b,0,none⟩))):
  Calls Tryz.prog 86 #[.pointer (some ⟨b,0,none⟩)] w fun e w'=>e=.returned (.tuple #[])∧w'=w:=by
 obtain ⟨j,hj,_⟩:=info_bl
 have hne:=fun w=>Lib.run_neq_ptr_same (P:=Tryz.prog) w (⟨b,0,none⟩:Addr) Tryz.underlying58 hj
 go_enter Tryz.func86,Tryz.ntmps86
 go_wp2
 go_end0
 exact ⟨rfl,rfl⟩
theorem pcopy_fresh (b:Nat) (w:World) (h0:w.cell? ⟨b,0,none⟩=some (.pointer none)) (hsh:w.shape? b=some (63,2)) (hfz:w.frozen? ⟨b,0,none⟩=false):
  Calls Tryz.prog 86 #[.pointer (some ⟨b,0,none⟩)] w fun e w'=>e=.returned (.tuple #[])∧w'=w.setCell ⟨b,0,none⟩ (.pointer (some ⟨b,0,none⟩)):=by
 obtain ⟨j,hj,hjs⟩:=info_bl
 go_enter Tryz.func86,Tryz.ntmps86
 go_wp2
 rw [Lib.run_to_unsafe w ⟨b,0,none⟩ Tryz.underlying58 Tryz.underlying120 hj hjs hsh (Nat.zero_lt_succ 1)];simp only [Result.andThen];rw [Oper.upon_value];go_wp2;rw [run_callFunc_extern Tryz.func112 (by kernel_rfl) (by kernel_rfl) (by kernel_rfl) (e:=Extern.AbiNoEscape.same) (by kernel_rfl)]
 rw [Lib.run_noEscape];simp only [Result.andThen];rw [Oper.upon_value];go_wp2;rw [Lib.run_from_unsafe w ⟨b,0,none⟩ Tryz.underlying120 Tryz.underlying58 hj hsh lies_prt];simp only [Result.andThen];rw [Oper.upon_value];go_wp2;go_end0;exact ⟨rfl,rfl⟩
theorem pcopy_any (B b:Nat) (bs:List Value) (w:World) (h:Lib.IsBuilder 63 5 B b bs w):
  Calls Tryz.prog 86 #[.pointer (some ⟨b,0,none⟩)] w fun e w'=>e=.returned (.tuple #[])∧(Lib.BuilderAt 63 5 B b (.pointer (some ⟨b,0,none⟩)) bs w'∧Fr B PT w w'):=by
 rcases h with h | h
 ·refine (pcopy_fresh b w h.cell0 h.shape h.frozen0).mono ?_
  rintro e w' ⟨rfl,rfl⟩;obtain ⟨hB,v,hbk,-,-⟩:=id h;exact ⟨rfl,h.used _,(Fr.refl B PT w).put hbk hB (by simp [PT]) 0 _⟩
 ·refine (pcopy_used b w h.cell0).mono ?_
  rintro e w' ⟨rfl,rfl⟩;exact ⟨rfl,h,Fr.refl B PT _⟩
theorem elp_u8:Elem Tryz.prog 59 5 (.int .u8 0) 1 1:=by
 refine ⟨Tryz.underlying59,?_,rfl,by decide⟩
 exact info_parts (by kernel_rfl)
theorem prow_shape {w:World} {b:Nat} {e:TypeId} {v:Value} {l:List UInt8} (h:BRow w b e v l):∃x c,v=.slice x l.length c∧l.length≤maxLen:=by
 rcases h.2 with ⟨rfl,h0⟩ | ⟨g,cap,cur,rfl,_,_,h1,h2,_⟩
 ·exact ⟨none,0,by rw [h0],by rw [h0]; exact Nat.zero_le _⟩
 ·exact ⟨_,_,rfl,Nat.le_trans h1 h2⟩
theorem pwrite_any (B b:Nat) (l:List UInt8) (s:ByteArray) (w:World) (h:Prt B b l w) (hlen:l.length+s.size≤140737488355328) (hBw:B≤w.heap.size):
  Calls Tryz.prog 43 #[.pointer (some ⟨b,0,none⟩),.string s] w fun e w'=>e=.returned (.tuple #[.int .i64 s.size,.nilIface])∧Prt B b (l++s.data.toList) w'∧Fr B PT w w':=by
 go_enter Tryz.func43,Tryz.ntmps43
 go_wp2_with fail;refine (pcopy_any B b _ _ h).mono ?_;rintro e w1 ⟨rfl,h1,hb1⟩;obtain ⟨hB,v,hbk,hown,hne⟩:=h1;have c0:w1.cell? ⟨b,0,none⟩=some (.pointer (some ⟨b,0,none⟩)):=by rw [Lib.cell_of_heap hbk]; rfl
 have c1:w1.cell? ⟨b,1,none⟩=some v:=by rw [Lib.cell_of_heap hbk]; rfl
 have hrow:BRow w1 B 5 v l:=by
  have:=hown
  rw [Lib.byteCells_length] at this;exact this
 have hsz:=hb1.size
 go_wp2_with (at_builtin; refine wpList_app_str elp_u8 Tryz.underlying9 hrow (by omega) rfl rfl rfl rfl hlen ?_)
 intro v2 w2 hrow2 hg2;obtain ⟨x2,k2,rfl,-⟩:=prow_shape hrow2;have hlt:b < w1.heap.size:=by
  rcases Nat.lt_or_ge b w1.heap.size with h' | h'
  ·exact h'
  ·simp [Array.getElem?_eq_none h'] at hbk
 have hbk2:w2.heap[b]?=some (.cells #[.pointer (some ⟨b,0,none⟩),v] 63 (0,0)):=(hg2.block b hlt (fun e=>hne e.symm)).trans hbk
 have c2:w2.cell? ⟨b,1,none⟩=some v:=by rw [Lib.cell_of_heap hbk2]; rfl
 have f2:=Lib.frozen_of_heap hbk2 1
 have hput:=Lib.BuilderAt.put (bs':=Lib.byteCells (l++s.data.toList)) (B:=B) (e:=5) hB hbk2 (by rw [Lib.byteCells_length]; exact hrow2) (by decide)
 have hll:(l++s.data.toList).length=l.length+s.size:=by simp
 rw [hll] at hput;have HP:=zH hput;clear hput hll;have hb2:Fr B PT w w2:=hb1.grown hrow (Nat.le_refl _) (by simp [PT]) hg2
 go_wp2_with fail;refine bodyPost_ret (v:=.tuple #[.int .i64 (s.size:Int),.nilIface]) (by simp [results,Tryz.f43,go_sem]) rfl ⟨rfl,Or.inr HP.out,hb2.put hbk2 hB (by simp [PT]) 1 _⟩

theorem Prt.buf {B b:Nat} {l:List UInt8} {w:World} (h:Prt B b l w):∃p v,w.heap[b]?=some (.cells #[p,v] 63 (0,0))∧BRow w B 5 v l∧B≤b:=by
 rcases h with ⟨hB,v,hbk,hown,-⟩ | ⟨hB,v,hbk,hown,-⟩ <;> (rw [Lib.byteCells_length] at hown; exact ⟨_,v,hbk,hown,hB⟩)
theorem plen_any (B b:Nat) (l:List UInt8) (w:World) (h:Prt B b l w):
  Calls Tryz.prog 44 #[.pointer (some ⟨b,0,none⟩)] w fun e w'=>e=.returned (.int .i64 (l.length:Nat))∧w'=w:=by
 obtain ⟨p,v,hbk,hrow,-⟩:=h.buf
 have c1:w.cell? ⟨b,1,none⟩=some v:=by rw [Lib.cell_of_heap hbk]; rfl
 obtain ⟨x,c,rfl,-⟩:=prow_shape hrow
 go_enter Tryz.func44,Tryz.ntmps44
 go_wp2_with fail;go_ret;exact ⟨rfl,rfl⟩
theorem pstring_any (B b:Nat) (l:List UInt8) (w:World) (h:Prt B b l w) (hBw:B≤w.heap.size):
  Calls Tryz.prog 30 #[.pointer (some ⟨b,0,none⟩)] w fun e w'=>e=.returned (.string ⟨l.toArray⟩)∧Below B w w':=by
 obtain ⟨p,v,hbk,hrow,hBb⟩:=h.buf
 have hlt:b < w.heap.size:=by
  rcases Nat.lt_or_ge b w.heap.size with h' | h'
  ·exact h'
  ·simp [Array.getElem?_eq_none h'] at hbk
 have c1:w.drew.cell? ⟨b,1,none⟩=some v:=by
  have:w.drew.heap[b]?=some (.cells #[p,v] 63 (0,0)):=hbk
  rw [Lib.cell_of_heap this]; rfl
 rcases hrow.2 with ⟨rfl,h0⟩ | ⟨g,cap,cur,rfl,hbg,hg,hnc,hcm,hcs,htake⟩
 ·obtain rfl:l=[]:=List.eq_nil_of_length_eq_zero h0
  have hSD:(Builtin.unsafeSliceData_ #[59] 92 #[.slice none 0 0]).run Tryz.prog w.drew=.ok (.pointer none) w.drew:=rfl
  have hUS:=fun W=>Lib.run_unsafeString_none (P:=Tryz.prog) W 92 3 9 none
  clear hrow h;go_enter Tryz.func30,Tryz.ntmps30;go_wp2_with fail;go_region_law fail
  all_goals (go_wp2_with fail; go_ret; exact ⟨rfl,Below.drew (Below.refl B w)⟩)
 ·by_cases hl0:l=[]
  ·subst hl0
   by_cases hc0:cap=0
   ·subst hc0
    have hSD:(Builtin.unsafeSliceData_ #[59] 92 #[.slice (some ⟨g,0,none⟩) 0 0]).run Tryz.prog w.drew=.ok (.pointer (some ⟨w.drew.heap.size,0,none⟩)) (w.drew.alloc (.view ⟨g,0,none⟩ 5)):=
     Lib.run_unsafeSliceData_zero w.drew _ _ 5 Tryz.underlying92 ⟨g,0,none⟩ 0 (5,cur.size) (by have hg':w.drew.heap[g]?=some (.cells cur 5 (0,0)):=hg; simp [World.shape?,hg'])
    have c2:(w.drew.alloc (.view ⟨g,0,none⟩ 5)).cell? ⟨b,1,none⟩=some (.slice (some ⟨g,0,none⟩) 0 0):=by
     have:(w.drew.alloc (.view ⟨g,0,none⟩ 5)).heap[b]?=_:=(Lib.alloc_old w.drew _ b hlt).trans hbk
     rw [Lib.cell_of_heap this]; rfl
    have c3:(w.alloc (.view ⟨g,0,none⟩ 5)).drew.cell? ⟨b,1,none⟩=some (.slice (some ⟨g,0,none⟩) 0 0):=c2
    have c0:w.cell? ⟨b,1,none⟩=some (.slice (some ⟨g,0,none⟩) 0 0):=c1
    have hUS:=fun W q=>Lib.run_unsafeString_none (P:=Tryz.prog) W 92 3 9 q
    clear hrow h;go_enter Tryz.func30,Tryz.ntmps30;go_wp2_with fail;go_region_law fail
    all_goals (go_wp2_with fail; go_ret; exact ⟨rfl,(Below.drew (Below.refl B w)).alloc hBw _⟩)
   ·have hSD:(Builtin.unsafeSliceData_ #[59] 92 #[.slice (some ⟨g,0,none⟩) 0 cap]).run Tryz.prog w.drew=.ok (.pointer (some ⟨g,0,none⟩)) w.drew:=Lib.run_unsafeSliceData_row _ _ _ _ _ _ hc0
    have hUS:=fun W q=>Lib.run_unsafeString_none (P:=Tryz.prog) W 92 3 9 q
    clear hrow h hc0;go_enter Tryz.func30,Tryz.ntmps30;go_wp2_with fail;go_region_law fail
    all_goals (go_wp2_with fail; go_ret; exact ⟨rfl,Below.drew (Below.refl B w)⟩)
  ·have hll:l.length≠0:=by simpa using hl0
   have hSD:(Builtin.unsafeSliceData_ #[59] 92 #[.slice (some ⟨g,0,none⟩) l.length cap]).run Tryz.prog w.drew=.ok (.pointer (some ⟨g,0,none⟩)) w.drew:=Lib.run_unsafeSliceData_row _ _ _ _ _ _ (by omega)
   have hUS:(Builtin.unsafeString_ #[92,3] 9 #[.pointer (some ⟨g,0,none⟩),.int .i64 l.length]).run Tryz.prog w.drew=.ok (.string ⟨l.toArray⟩) (w.drew.freeze ⟨g,0,none⟩ l.length):=by
    refine Lib.run_unsafeString_row w.drew 92 3 9 5 Tryz.underlying92 Tryz.Builder_Extra_156.cellsByte g cur.size (by have hg':w.drew.heap[g]?=some (.cells cur 5 (0,0)):=hg; simp [World.shape?,hg']) l hl0 (by omega) (by unfold maxLen at hcm; omega) ?_
    intro j x hx;have:=hrow.cells (g:=g) rfl j (.int .u8 x.toNat) (by simp [bcells,hx])
    exact this
   clear hrow h;go_enter Tryz.func30,Tryz.ntmps30;go_wp2_with fail;go_region_law fail
   all_goals (go_wp2_with fail; go_ret; exact ⟨rfl,Lib.below_freeze (Below.drew (Below.refl B w)) (p:=⟨g,0,none⟩) hbg _⟩)
open Go.RowKit

structure BW (B:Nat) (w0:World) where
 w:World
 b:Below B w0 w
instance BW.some (B:Nat) (w0:World):Nonempty (BW B w0):=⟨⟨w0,Below.refl B w0⟩⟩
theorem calls_bw {P:Program} {f:FuncId} {args:Array Value} {B:Nat} {w0:World} (hB:B≤w0.heap.size) {u:BW B w0} {v:Value}
  (h:Calls P f args u.w fun e w'=>e=.returned v∧Below u.w.heap.size u.w w'):Calls P f args u.w fun e w''=>e=.returned v∧∃u':BW B w0,w''=u'.w:=
 h.mono fun _ w' ⟨he,hb⟩=>⟨he,⟨⟨w',u.b.trans (hb.mono (Nat.le_trans hB u.b.size))⟩,rfl⟩⟩
theorem tab_below {P:Program} {w w':World} {n:String} {k:IntKind} {zs:List Int} (h:Lib.TabIs P w n k zs) (hb:Below w.heap.size w w'):Lib.TabIs P w' n k zs:=by
 unfold Lib.TabIs World.var? at*
 cases hg:P.globalNamed n with
 | none=>rw [hg] at h; cases h
 | some g=>
  rw [hg] at h;simp only [Option.bind_some] at h ⊢;have hlt:g < w.heap.size:=by
   rcases Nat.lt_or_ge g w.heap.size with hl | hl
   ·exact hl
   ·rw [Array.getElem?_eq_none hl] at h; cases h
  rw [hb.block g hlt];exact h
open Go.RowKit

theorem Prt.below {B b:Nat} {l:List UInt8} {w w':World} (h:Prt B b l w) (hb:Below w.heap.size w w'):Prt B b l w':=by
 have key:∀p,Lib.BuilderAt 63 5 B b p (Lib.byteCells l) w→Lib.BuilderAt 63 5 B b p (Lib.byteCells l) w':=fun p hp=>by
  have hlt:=hp.lt
  obtain ⟨hB,v,hbk,hown,hne⟩:=hp
  exact ⟨hB,v,(hb.block b hlt).trans hbk,own_keep hown fun g _ hl=>hb.block g hl,hne⟩
 rcases h with h | h
 ·exact Or.inl (key _ h)
 ·exact Or.inr (key _ h)
theorem Prt.lt {B b:Nat} {l:List UInt8} {w:World} (h:Prt B b l w):b < w.heap.size:=by
 rcases h with h | h <;> exact h.lt
theorem pt_syn:(31:TypeId)∉PT:=by decide
theorem pt_str:(9:TypeId)∉PT:=by decide
theorem flat_step {l:List Nm} {i:Nat} (h:i < l.length):(l.take (i+1)).flatten=(l.take i).flatten++l[i]:=by
 rw [List.take_succ_eq_append_getElem h,List.flatten_append];simp
theorem flat_le {l:List Nm} {i:Nat} (h:i < l.length):(l.take i).flatten.length+l[i].length≤l.flatten.length:=by
 have h1:=flat_step h
 have h2:l.flatten=(l.take (i+1)).flatten++(l.drop (i+1)).flatten:=by rw [← List.flatten_append,List.take_append_drop]
 rw [h2,h1];simp

theorem put_any (B P:Nat) (l:List UInt8) (k:Nat) (ts:List Nm) (w:World) (hp:Prt B P l w) (hk:Blk w k 9 (ts.map fun t=>Value.string ⟨t.toArray⟩).toArray) (hl:ts.length≤100)
  (hlen:l.length+ts.flatten.length≤140737488355328) (hBw:B≤w.heap.size):
  Calls Tryz.prog 47 #[.pointer (some ⟨P,0,none⟩),.slice (some ⟨k,0,none⟩) ts.length ts.length] w fun e w'=>e=.returned (.tuple #[])∧Prt B P (l++ts.flatten) w'∧Fr B PT w w':=by
 have HP:=zH hp
 have HK:=zH hk
 have HLEN:=zH hlen
 have HBW:=zH hBw
 clear hp hk hlen hBw;obtain ⟨n,hn⟩:∃n,ts.length=n:=⟨_,rfl⟩;have HN:=zH hn;rw [hn] at hl ⊢;clear hn;go_enter Tryz.func47,Tryz.ntmps47;go_wp2_with fail;go_loopw [8] (fun vi wr=>∃(i:Nat),vi=.int .i64 i∧i≤n∧Hid (Prt B P (l++(ts.take i).flatten) wr)∧Hid (Fr B PT w wr)) (fun vi _=>n - (intOf vi).toNat)
 case atStart=>exact ⟨0,rfl,Nat.zero_le _,by have h:=HP.out; show Prt _ _ _ _; simpa using h,Fr.refl _ _ _⟩
 case round=>
  obtain ⟨i,rfl,hi,hpr,hfr⟩:=hrel
  by_cases hlt:i < n
  ·have dlt:decide ((i:Int) < (n:Int))=true:=by simp; omega
   have i1:(i:Int) < (n:Int):=by omega
   have hil:i < ts.length:=by rw [HN.out]; exact hlt
   have hcell:wr.cell? ⟨k,i,none⟩=some (.string ⟨ts[i].toArray⟩):=by
    rw [(hfr.out.blk HK.out pt_str).cell];simp [hil]
   have hfl:=flat_le hil
   have HW:=zH (pwrite_any B P (l++(ts.take i).flatten) ⟨ts[i].toArray⟩ wr hpr.out (by have h1:=HLEN.out; show _+ts[i].toArray.size≤_; simp only [List.length_append,List.size_toArray]; omega) (Nat.le_trans HBW.out hfr.out.size))
   have HST:=zH (flat_step hil)
   obtain ⟨y,hy⟩:∃y,ts[i]=y:=⟨_,rfl⟩
   rw [hy] at hcell HW HST;clear hy hfl hil;go_wp2_with fail;refine HW.out.mono ?_;rintro e w1 ⟨rfl,hp1,hf1⟩;have HP1:Hid (Prt B P (l++(ts.take (i+1)).flatten) w1):=by show Prt _ _ _ _; rw [HST.out,← List.append_assoc]; exact hp1
   have HF1:=zH (hfr.out.trans hf1)
   clear hp1 hf1 HW hcell hpr hfr;go_wp2_with fail;go_roundw
   case rel=>exact ⟨i+1,by go_num,by omega,HP1,HF1⟩
   case measure=>simp [intOf]; omega
  ·have dlt:decide ((i:Int) < (n:Int))=false:=by simp; omega
   have HP1:Hid (Prt B P (l++ts.flatten) wr):=by
    have h1:=hpr.out
    rwa [List.take_of_length_le (by rw [HN.out]; omega)] at h1
   clear hpr;go_wp2_with fail;refine bodyPost_end (results_none rfl _ _ _) rfl ?_;exact ⟨rfl,HP1.out,hfr.out⟩
theorem ind_succ (d:Nat):ind (d+1)=ind d++[32,32]:=by simp [ind,List.replicate_succ',List.flatten_append]
theorem ind_len (d:Nat):(ind d).length=2*d:=by
 induction d with
 | zero=>rfl
 | succ d ih=>rw [ind_succ,List.length_append,ih]; simp; omega

theorem indent_any (B P:Nat) (l:List UInt8) (d:Nat) (w:World) (hp:Prt B P l w) (hlen:l.length+(ind d).length≤140737488355328) (hBw:B≤w.heap.size):
  Calls Tryz.prog 45 #[.pointer (some ⟨P,0,none⟩),.int .i64 (d:Nat)] w fun e w'=>e=.returned (.tuple #[])∧Prt B P (l++ind d) w'∧Fr B PT w w':=by
 have HP:=zH hp
 have hdd:d≤140737488355328:=by rw [ind_len] at hlen; omega
 have HLEN:=zH hlen
 have HBW:=zH hBw
 clear hp hlen hBw;go_enter Tryz.func45,Tryz.ntmps45;go_wp2_with fail;go_loopw [5] (fun vi wr=>∃(i:Nat),vi=.int .i64 i∧i≤d∧Hid (Prt B P (l++ind i) wr)∧Hid (Fr B PT w wr)) (fun vi _=>d - (intOf vi).toNat)
 case atStart=>exact ⟨0,rfl,Nat.zero_le _,by have h:=HP.out; show Prt _ _ _ _; simpa [ind] using h,Fr.refl _ _ _⟩
 case round=>
  obtain ⟨i,rfl,hi,hpr,hfr⟩:=hrel
  by_cases hlt:i < d
  ·have dlt:decide ((i:Int) < (d:Int))=true:=by simp; omega
   have hbn:=(Below.refl wr.heap.size wr).alloc (Nat.le_refl _) (.cells #[.string ⟨#[32,32]⟩] 9)
   have HW:=zH (put_any B P (l++ind i) wr.heap.size [[32,32]] (wr.alloc (.cells #[.string ⟨#[32,32]⟩] 9)) (hpr.out.below hbn) (Blk.new wr 9 #[.string ⟨#[32,32]⟩]) (by decide)
    (by have h1:=HLEN.out; rw [ind_len] at h1; simp only [List.length_append,ind_len]; simp; omega) (by have h1:=HBW.out; have h2:=hfr.out.size; simp; omega))
   have HF0:=zH (hfr.out.trans (Fr.of_below (B:=B) hbn PT))
   have e1:[([32,32]:Nm)].length=1:=rfl
   rw [e1] at HW;clear hbn e1;go_wp2_with fail;refine HW.out.mono ?_;rintro e w1 ⟨rfl,hp1,hf1⟩;have HP1:Hid (Prt B P (l++ind (i+1)) w1):=by show Prt _ _ _ _; rw [ind_succ,← List.append_assoc]; simpa using hp1
   have HF1:=zH (HF0.out.trans hf1)
   clear hp1 hf1 HW hpr hfr HF0;go_wp2_with fail;go_roundw
   case rel=>exact ⟨i+1,by go_num,by omega,HP1,HF1⟩
   case measure=>simp [intOf]; omega
  ·have dlt:decide ((i:Int) < (d:Int))=false:=by simp; omega
   have HP1:Hid (Prt B P (l++ind d) wr):=by
    have h1:=hpr.out
    rwa [show i=d by omega] at h1
   clear hpr;go_wp2_with fail;refine bodyPost_end (results_none rfl _ _ _) rfl ?_;exact ⟨rfl,HP1.out,hfr.out⟩
open Go.RowKit

def Mw:Nat:=70368744177664
structure PrS (w0:World) (B P:Nat) (ws w:World) (l:List UInt8):Prop where
 prt:Prt B P l w
 bel:Below B w0 w
 fr:Fr B PT ws w
 size:B≤w.heap.size
theorem PrS.next {w0:World} {B P:Nat} {ws w w1 w2:World} {l l':List UInt8} (h:PrS w0 B P ws w l) (hb:Below w.heap.size w w1) (hp:Prt B P l' w2) (hf:Fr B PT w1 w2):PrS w0 B P ws w2 l':=
 ⟨hp,h.bel.trans ((hb.mono h.size).trans (hf.below (Nat.le_trans h.size hb.size))),(h.fr.trans (Fr.of_below hb PT)).trans hf,Nat.le_trans h.size (Nat.le_trans hb.size hf.size)⟩
theorem PrS.below {w0:World} {B P:Nat} {ws w w1:World} {l:List UInt8} (h:PrS w0 B P ws w l) (hb:Below w.heap.size w w1):PrS w0 B P ws w1 l:=
 ⟨h.prt.below hb,h.bel.trans (hb.mono h.size),h.fr.trans (Fr.of_below hb PT),Nat.le_trans h.size hb.size⟩
def PrR (B P:Nat) (l T:List UInt8) (w:World) (e:Ending) (w':World):Prop:=e=.returned (.tuple #[])∧Prt B P (l++T) w'∧Fr B PT w w'
def PxOk (w0:World) (P N:Nat):Prop:=∀(h:Hd) (k:Fo) (xn xk:Option Addr) (cn ck:Nat) (w:World) (l:List UInt8),k.size < N→exN h k=true→FRow w0 (.slice xk k.len ck) k→Below w0.heap.size w0 w→Prt w0.heap.size P l w→
 l.length+(exOne h (exT k)).length≤Mw→
 Calls Tryz.prog 90 #[.pointer (some ⟨P,0,none⟩),.agg (ndV h (.slice xn h.names.length cn) (.slice xk k.len ck))] w (PrR w0.heap.size P l (exOne h (exT k)) w)
def PiOk (w0:World) (P N:Nat):Prop:=∀(h:Hd) (k:Fo) (b:Bool) (xn xk:Option Addr) (cn ck:Nat) (w:World) (l:List UInt8),k.size < N→exN h k=true→FRow w0 (.slice xk k.len ck) k→Below w0.heap.size w0 w→Prt w0.heap.size P l w→
 l.length+(opW b (exOne h (exT k))).length≤Mw→
 Calls Tryz.prog 116 #[.pointer (some ⟨P,0,none⟩),.agg (ndV h (.slice xn h.names.length cn) (.slice xk k.len ck)),.bool b] w (PrR w0.heap.size P l (opW b (exOne h (exT k))) w)
theorem FRow.at0 {w0 w:World} {B:Nat} {v:Value} {F:Fo} (h:FRow w0 v F) (hb:Below B w0 w) (hB:w0.heap.size=B):FRow w v F:=h.below (by rw [hB]; exact hb)

theorem inner_any (w0:World) (P N:Nat) (hx:PxOk w0 P N):PiOk w0 P N:=by
 intro h k b xn xk cn ck w l hN hen hkr hbw hp hln;obtain ⟨B,hB⟩:∃B,w0.heap.size=B:=⟨_,rfl⟩;have HB:=zH hB;have hHX:=fun w l h1 h2 h3=>hx h k xn xk cn ck w l hN hen hkr h1 h2 h3
 rw [hB] at hbw hp hHX ⊢;have HX:=zH hHX;have hsz:B≤w.heap.size:=by rw [← hB]; exact (show Below w0.heap.size w0 w by rw [hB]; exact hbw).size
 have HBND:=zH hln
 have hba:=(Below.refl w.heap.size w).alloc (Nat.le_refl _) (.cells (ndV h (.slice xn h.names.length cn) (.slice xk k.len ck)) 31)
 have HKB:=zH (Blk.new w 31 (ndV h (.slice xn h.names.length cn) (.slice xk k.len ck)))
 have HS:=zH ((PrS.mk hp hbw (Fr.refl B PT w) hsz).below hba)
 clear hx hN hen hkr hbw hp hln hB hHX hsz hba;obtain ⟨E,hE⟩:∃E,exOne h (exT k)=E:=⟨_,rfl⟩;rw [hE] at HX HBND ⊢;clear hE;obtain ⟨kd,tx,nu,nm,ps⟩:=h;simp only at HX HKB HS ⊢;unfold ndV at HX HKB HS ⊢;go_enter Tryz.func116,Tryz.ntmps116;go_upto_region 1 with fail
 generalize w.alloc (.cells #[.int .i64 kd,.string ⟨tx.toArray⟩,.int .i64 nu,.slice xn nm.length cn,.slice xk k.len ck,.int .i64 ps] 31)=wz at*;generalize w.heap.size=KB at*;have y0:wz.cell? ⟨KB,0,none⟩=some (.int .i64 kd):=HKB.out.cell 0;have y1:wz.cell? ⟨KB,1,none⟩=some (.string ⟨tx.toArray⟩):=HKB.out.cell 1;have y2:wz.cell? ⟨KB,2,none⟩=some (.int .i64 nu):=HKB.out.cell 2
 have y3:wz.cell? ⟨KB,3,none⟩=some (.slice xn nm.length cn):=HKB.out.cell 3
 have y4:wz.cell? ⟨KB,4,none⟩=some (.slice xk k.len ck):=HKB.out.cell 4
 have y5:wz.cell? ⟨KB,5,none⟩=some (.int .i64 ps):=HKB.out.cell 5
 cases b with
 | false=>
  have hT:opW false E=E:=rfl
  rw [hT] at HBND ⊢;clear hT;have HC:=zH (HX.out wz l HS.out.bel HS.out.prt HBND.out);go_wp2_with fail;refine HC.out.mono ?_;rintro e w1 ⟨rfl,hp1,hf1⟩;have HS2:=zH (HS.out.next (Below.refl _ _) hp1 hf1);have HKB2:=zH (hf1.blk HKB.out pt_syn);clear HS HKB y0 y1 y2 y3 y4 y5 hp1 hf1 HC;have HS:=HS2;have HKB:=HKB2;clear HS2 HKB2;have y0:w1.cell? ⟨KB,0,none⟩=some (.int .i64 kd):=HKB.out.cell 0
  have y1:w1.cell? ⟨KB,1,none⟩=some (.string ⟨tx.toArray⟩):=HKB.out.cell 1
  have y2:w1.cell? ⟨KB,2,none⟩=some (.int .i64 nu):=HKB.out.cell 2
  have y3:w1.cell? ⟨KB,3,none⟩=some (.slice xn nm.length cn):=HKB.out.cell 3
  have y4:w1.cell? ⟨KB,4,none⟩=some (.slice xk k.len ck):=HKB.out.cell 4
  have y5:w1.cell? ⟨KB,5,none⟩=some (.int .i64 ps):=HKB.out.cell 5
  go_wp2_with fail;first
   | refine bodyPost_ret (results_none rfl _ _ _) rfl ⟨rfl,?_,HS.out.fr⟩
   | refine bodyPost_end (results_none rfl _ _ _) rfl ⟨rfl,?_,HS.out.fr⟩
  have h1:=HS.out.prt
  simpa [List.append_assoc,opW] using h1
 | true=>
  have hT:opW true E=[40]++E++[41]:=rfl
  rw [hT] at HBND ⊢;clear hT;have hbn:=(Below.refl wz.heap.size wz).alloc (Nat.le_refl _) (.cells #[.string ⟨#[40]⟩] 9)
  have HPU:=zH (put_any B P l wz.heap.size [[40]] (wz.alloc (.cells #[.string ⟨#[40]⟩] 9)) (HS.out.prt.below hbn) (Blk.new wz 9 #[.string ⟨#[40]⟩]) (by simp) (by have h1:=HBND.out; unfold Mw at h1; first | (simp only [List.length_append,List.length_cons,List.length_nil] at h1 ⊢; omega) | (simp only [List.length_append,List.flatten_cons,List.flatten_nil,List.append_nil,List.length_cons,List.length_nil] at h1 ⊢; omega)) (by have h1:=HS.out.size; simp; omega))
  have e1:([[40]]:List Nm).length=1:=rfl
  rw [e1] at HPU;have HBN:=zH hbn;clear e1 hbn;go_wp2_with fail;refine HPU.out.mono ?_;rintro e w1 ⟨rfl,hp1,hf1⟩;have HS2:=zH (HS.out.next HBN.out hp1 hf1);have HKB2:=zH (hf1.blk (HKB.out.alloc _) pt_syn);clear HS HKB y0 y1 y2 y3 y4 y5 hp1 hf1 HPU HBN;have HS:=HS2;have HKB:=HKB2;clear HS2 HKB2;have y0:w1.cell? ⟨KB,0,none⟩=some (.int .i64 kd):=HKB.out.cell 0
  have y1:w1.cell? ⟨KB,1,none⟩=some (.string ⟨tx.toArray⟩):=HKB.out.cell 1
  have y2:w1.cell? ⟨KB,2,none⟩=some (.int .i64 nu):=HKB.out.cell 2
  have y3:w1.cell? ⟨KB,3,none⟩=some (.slice xn nm.length cn):=HKB.out.cell 3
  have y4:w1.cell? ⟨KB,4,none⟩=some (.slice xk k.len ck):=HKB.out.cell 4
  have y5:w1.cell? ⟨KB,5,none⟩=some (.int .i64 ps):=HKB.out.cell 5
  have HC:=zH (HX.out w1 (l++([[40]]:List Nm).flatten) HS.out.bel HS.out.prt (by have h1:=HBND.out; unfold Mw at h1 ⊢; first | (simp only [List.length_append,List.length_cons,List.length_nil] at h1 ⊢; omega) | (simp only [List.length_append,List.flatten_cons,List.flatten_nil,List.append_nil,List.length_cons,List.length_nil] at h1 ⊢; omega)))
  go_wp2_with fail;refine HC.out.mono ?_;rintro e w2 ⟨rfl,hp1,hf1⟩;have HS2:=zH (HS.out.next (Below.refl _ _) hp1 hf1);have HKB2:=zH (hf1.blk HKB.out pt_syn);clear HS HKB y0 y1 y2 y3 y4 y5 hp1 hf1 HC;have HS:=HS2;have HKB:=HKB2;clear HS2 HKB2;have y0:w2.cell? ⟨KB,0,none⟩=some (.int .i64 kd):=HKB.out.cell 0;have y1:w2.cell? ⟨KB,1,none⟩=some (.string ⟨tx.toArray⟩):=HKB.out.cell 1
  have y2:w2.cell? ⟨KB,2,none⟩=some (.int .i64 nu):=HKB.out.cell 2
  have y3:w2.cell? ⟨KB,3,none⟩=some (.slice xn nm.length cn):=HKB.out.cell 3
  have y4:w2.cell? ⟨KB,4,none⟩=some (.slice xk k.len ck):=HKB.out.cell 4
  have y5:w2.cell? ⟨KB,5,none⟩=some (.int .i64 ps):=HKB.out.cell 5
  have hbn:=(Below.refl w2.heap.size w2).alloc (Nat.le_refl _) (.cells #[.string ⟨#[41]⟩] 9)
  have HPU:=zH (put_any B P ((l++([[40]]:List Nm).flatten)++E) w2.heap.size [[41]] (w2.alloc (.cells #[.string ⟨#[41]⟩] 9)) (HS.out.prt.below hbn) (Blk.new w2 9 #[.string ⟨#[41]⟩]) (by simp) (by have h1:=HBND.out; unfold Mw at h1; first | (simp only [List.length_append,List.length_cons,List.length_nil] at h1 ⊢; omega) | (simp only [List.length_append,List.flatten_cons,List.flatten_nil,List.append_nil,List.length_cons,List.length_nil] at h1 ⊢; omega)) (by have h1:=HS.out.size; simp; omega))
  have e1:([[41]]:List Nm).length=1:=rfl
  rw [e1] at HPU;have HBN:=zH hbn;clear e1 hbn;go_wp2_with fail;refine HPU.out.mono ?_;rintro e w3 ⟨rfl,hp1,hf1⟩;have HS2:=zH (HS.out.next HBN.out hp1 hf1);have HKB2:=zH (hf1.blk (HKB.out.alloc _) pt_syn);clear HS HKB y0 y1 y2 y3 y4 y5 hp1 hf1 HPU HBN;have HS:=HS2;have HKB:=HKB2;clear HS2 HKB2;have y0:w3.cell? ⟨KB,0,none⟩=some (.int .i64 kd):=HKB.out.cell 0
  have y1:w3.cell? ⟨KB,1,none⟩=some (.string ⟨tx.toArray⟩):=HKB.out.cell 1
  have y2:w3.cell? ⟨KB,2,none⟩=some (.int .i64 nu):=HKB.out.cell 2
  have y3:w3.cell? ⟨KB,3,none⟩=some (.slice xn nm.length cn):=HKB.out.cell 3
  have y4:w3.cell? ⟨KB,4,none⟩=some (.slice xk k.len ck):=HKB.out.cell 4
  have y5:w3.cell? ⟨KB,5,none⟩=some (.int .i64 ps):=HKB.out.cell 5
  go_wp2_with fail;first
   | refine bodyPost_ret (results_none rfl _ _ _) rfl ⟨rfl,?_,HS.out.fr⟩
   | refine bodyPost_end (results_none rfl _ _ _) rfl ⟨rfl,?_,HS.out.fr⟩
  have h1:=HS.out.prt
  simpa [List.append_assoc,opW] using h1

theorem join_snoc (ts:List Nm) (t:Nm):Lib.join (ts++[t]) cm=if ts=[] then t else Lib.join ts cm++cm++t:=by
 cases ts with
 | nil=>exact Lib.join_one _ _
 | cons a r=>
  rw [if_neg (by simp),List.cons_append,Lib.join_cons,Lib.join_cons]
  simp [Lib.joinTail,List.append_assoc]
theorem join_take {ts:List Nm} {i:Nat} (h:i < ts.length):Lib.join (ts.take (i+1)) cm=if i=0 then ts[i] else Lib.join (ts.take i) cm++cm++ts[i]:=by
 rw [List.take_succ_eq_append_getElem h,join_snoc];have:(ts.take i=[])=(i=0):=by
  rw [eq_iff_iff];constructor
  ·intro he
   have:=congrArg List.length he
   rw [List.length_take,List.length_nil] at this;omega
  ·rintro rfl; rfl
 simp only [this]
theorem join_le {ts:List Nm} {i:Nat} (h:i≤ts.length):(Lib.join (ts.take i) cm).length≤(Lib.join ts cm).length:=by
 cases ts with
 | nil=>simp
 | cons a r=>
  cases i with
  | zero=>simp [Lib.join_nil]
  | succ i=>
   rw [List.take_succ_cons,Lib.join_cons,Lib.join_cons,List.length_append,List.length_append];have:=Lib.joinTail_take_le cm r i;omega

theorem plist_any (w0:World) (P N:Nat) (hx:PxOk w0 P N) (F:Fo) (xv:Value) (b c:UInt8) (w:World) (l:List UInt8) (hN:F.size < N+1) (hen:rt .ex F=true) (hxr:FRow w0 xv F) (hbw:Below w0.heap.size w0 w) (hp:Prt w0.heap.size P l w) (hln:l.length+(lisT b (exT F) c).length≤Mw):
  Calls Tryz.prog 115 #[.pointer (some ⟨P,0,none⟩),.string ⟨#[b]⟩,xv,.string ⟨#[c]⟩] w (PrR w0.heap.size P l (lisT b (exT F) c) w):=by
 obtain ⟨x,ca,rfl,hl,hcc,-⟩:=id hxr
 obtain ⟨B,hB⟩:∃B,w0.heap.size=B:=⟨_,rfl⟩
 have HB:=zH hB
 have HX:=zH hx
 have HN:=zH hN
 have HEN:=zH hen
 have HXR:=zH hxr
 have hsz:B≤w.heap.size:=by rw [← hB]; exact hbw.size
 rw [hB] at hbw hp ⊢;unfold lisT at hln ⊢;obtain ⟨ts,hts⟩:∃ts,ts=(exT F).map (·.2):=⟨_,rfl⟩;have HTS:=zH hts;rw [← hts] at hln ⊢;have HBND:=zH hln;unfold maxLen at hcc;have HS:=zH (PrS.mk hp hbw (Fr.refl B PT w) hsz);obtain ⟨n,hn⟩:∃n,F.len=n:=⟨_,rfl⟩;have HL:=zH hn;rw [hn] at HXR hl ⊢;have HTL:Hid (ts.length=n):=by show _=_; rw [hts,List.length_map,exT_len,hn]
 clear hx hN hen hxr hbw hp hln hsz hts hn hB;go_enter Tryz.func115,Tryz.ntmps115;have hbn:=(Below.refl w.heap.size w).alloc (Nat.le_refl _) (.cells #[.string ⟨#[b]⟩] 9)
 have HPU:=zH (put_any B P l w.heap.size [[b]] (w.alloc (.cells #[.string ⟨#[b]⟩] 9)) (HS.out.prt.below hbn) (Blk.new w 9 #[.string ⟨#[b]⟩]) (by simp) (by have h1:=HBND.out; unfold Mw at h1; first | (simp only [List.length_append,List.length_cons,List.length_nil] at h1 ⊢; omega) | (simp only [List.length_append,List.flatten_cons,List.flatten_nil,List.append_nil,List.length_cons,List.length_nil] at h1 ⊢; omega)) (by have h1:=HS.out.size; simp; omega))
 have e1:([[b]]:List Nm).length=1:=rfl
 rw [e1] at HPU;have HBN:=zH hbn;clear e1 hbn;go_wp2_with fail;refine HPU.out.mono ?_;rintro e w1 ⟨rfl,hp1,hf1⟩;have HS2:=zH (HS.out.next HBN.out hp1 hf1);clear HS hp1 hf1 HPU HBN;have HS:=HS2;clear HS2;go_wp2_with fail
 go_loopw [16] (fun vi wr=>∃(i:Nat) (A R:Fo),vi=.int .i64 i∧i≤n∧Hid (F=A.app R∧A.len=i)∧Hid (PrS w0 B P w wr ((l++([[b]]:List Nm).flatten)++Lib.join (ts.take i) cm))) (fun vi _=>n - (intOf vi).toNat)
 case atStart=>exact ⟨0,.nil,F,rfl,Nat.zero_le _,⟨rfl,rfl⟩,by have h1:=HS.out; show PrS _ _ _ _ _ _; simpa [Lib.join_nil] using h1⟩
 case round=>
  clear HS;obtain ⟨i,A,R,rfl,hi,hA,hs⟩:=hrel;have HS:=hs;clear hs;by_cases hlt:i < n
  ·have dlt:decide ((i:Int) < (n:Int))=true:=by simp; omega
   have i1:(i:Int) < (n:Int):=by omega
   obtain ⟨h,k,r,rfl⟩:∃h k r,R=.cons h k r:=by
    cases R with
    | nil=>have h1:=hA.out.2; have h2:=HL.out; rw [hA.out.1,Fo.app_nil] at h2; omega
    | cons h k r=>exact ⟨h,k,r,rfl⟩
   have hfr:FRow wr (.slice x n ca) (A.app (.cons h k r)):=by rw [← hA.out.1]; exact HXR.out.at0 HS.out.bel HB.out
   have hfr0:FRow w0 (.slice x n ca) (A.app (.cons h k r)):=by rw [← hA.out.1]; exact HXR.out
   obtain ⟨b0,off,xn,cn,xk,ck,rfl,⟨k0,k1,k2,k3,k4,k5⟩,hn1,hk1⟩:=hfr.node
   obtain ⟨b0',off',xn',cn',xk',ck',he',⟨-,-,-,-,k4',-⟩,-,hk1'⟩:=hfr0.node
   injection he' with he1
   injection he1 with he1 he2
   subst he1 he2;have hk4:wr.cell? ⟨b0,off+A.len*6+4,none⟩=some (.slice xk' k.len ck'):=((by rw [HB.out]; exact HS.out.bel:Below w0.heap.size w0 wr).cell (p:=⟨b0,off+A.len*6+4,none⟩) (World.block_lt_of_cell? w0 _ k4')).trans k4'
   rw [k4] at hk4;injection hk4 with hk4
   injection hk4 with hk5 hk6 hk7
   subst hk5 hk7;rw [hA.out.2] at k0 k1 k2 k3 k4 k5;have HKN:Hid (k.size < N):=by
    have h1:=HN.out
    rw [hA.out.1] at h1;have:=Fo.kid_size A h k r;show _ < _
    omega
   have HEX:Hid (exN h k=true):=by
    have h1:=HEN.out
    rw [rt_ex,hA.out.1,allG_app] at h1;simp only [allG,Bool.and_eq_true] at h1;exact h1.2.1
   have hil:i < ts.length:=by rw [HTL.out]; exact hlt
   have hti:ts[i]=exOne h (exT k):=by
    have h1:ts[i]?=some (exOne h (exT k)):=by
     rw [HTS.out,hA.out.1,exT_app,List.map_append,List.getElem?_append_right (by rw [List.length_map,exT_len,hA.out.2]; exact Nat.le_refl _),List.length_map,exT_len,hA.out.2,Nat.sub_self]
     rfl
    rw [List.getElem?_eq_getElem hil] at h1;injection h1
   have HJ:Hid (Lib.join (ts.take (i+1)) cm=if i=0 then exOne h (exT k) else Lib.join (ts.take i) cm++cm++exOne h (exT k)):=by show _=_; rw [join_take hil,hti]
   have HJL:Hid (l.length+2+(Lib.join (ts.take (i+1)) cm).length≤Mw):=by
    have h1:=HBND.out
    have h2:=join_le (ts:=ts) (i:=i+1) (by omega)
    simp only [List.length_append,List.length_cons,List.length_nil] at h1;show _≤_
    omega
   have HHK:=zH hk1'
   have HNX:Hid (F=(A.app (.cons h k .nil)).app r∧(A.app (.cons h k .nil)).len=i+1):=⟨by rw [← Fo.next]; exact hA.out.1,by rw [Fo.app_len,hA.out.2]; rfl⟩
   clear hfr hfr0 hn1 hk1 hk1' k4' hk6 hil hti hA;go_upto_region 4 with fail
   have hba:=(Below.refl wr.heap.size wr).alloc (Nat.le_refl _) (.cells (ndV h (.slice xn h.names.length cn) (.slice xk k.len ck)) 31)
   have HKB:=zH (Blk.new wr 31 (ndV h (.slice xn h.names.length cn) (.slice xk k.len ck)))
   have HSZ:=zH (HS.out.below hba)
   have HCON:=zH (fun w2 l2 h1 h2 h3=>HX.out h k xn xk cn ck w2 l2 HKN.out HEX.out HHK.out h1 h2 h3)
   obtain ⟨E,hE⟩:∃E,exOne h (exT k)=E:=⟨_,rfl⟩
   rw [HB.out,hE] at HCON;rw [hE] at HJ;obtain ⟨kd,tx,nu,nm,ps⟩:=h;simp only at k0 k1 k2 k3 k4 k5 HKB HSZ HCON ⊢;unfold ndV at HKB HSZ HCON;clear hba hE HS k0 k1 k2 k3 k4 k5;have HS:=HSZ;clear HSZ;generalize wr.alloc (.cells #[.int .i64 kd,.string ⟨tx.toArray⟩,.int .i64 nu,.slice xn nm.length cn,.slice xk k.len ck,.int .i64 ps] 31)=wz at*;generalize wr.heap.size=KB at*
   have y0:wz.cell? ⟨KB,0,none⟩=some (.int .i64 kd):=HKB.out.cell 0
   have y1:wz.cell? ⟨KB,1,none⟩=some (.string ⟨tx.toArray⟩):=HKB.out.cell 1
   have y2:wz.cell? ⟨KB,2,none⟩=some (.int .i64 nu):=HKB.out.cell 2
   have y3:wz.cell? ⟨KB,3,none⟩=some (.slice xn nm.length cn):=HKB.out.cell 3
   have y4:wz.cell? ⟨KB,4,none⟩=some (.slice xk k.len ck):=HKB.out.cell 4
   have y5:wz.cell? ⟨KB,5,none⟩=some (.int .i64 ps):=HKB.out.cell 5
   by_cases hi0:i=0
   ·subst hi0
    have HJ0:Hid (Lib.join (ts.take (0+1)) cm=E):=by show _=_; rw [HJ.out,if_pos rfl]
    have HC:=zH (HCON.out wz ((l++([[b]]:List Nm).flatten)++Lib.join (ts.take 0) cm) HS.out.bel HS.out.prt (by have h1:=HJL.out; rw [HJ0.out] at h1; unfold Mw at h1 ⊢; simp only [List.take_zero,Lib.join_nil,List.length_append,List.flatten_cons,List.flatten_nil,List.append_nil,List.length_cons,List.length_nil] at h1 ⊢; omega))
    have j1:decide (((0:Nat):Int) > 0)=false:=by simp
    go_wp2_with fail;refine HC.out.mono ?_;rintro e w3 ⟨rfl,hp1,hf1⟩;have HS2:=zH (HS.out.next (Below.refl _ _) hp1 hf1);have HKB2:=zH (hf1.blk HKB.out pt_syn);clear HS HKB y0 y1 y2 y3 y4 y5 hp1 hf1 HC;have HS:=HS2;have HKB:=HKB2;clear HS2 HKB2;have y0:w3.cell? ⟨KB,0,none⟩=some (.int .i64 kd):=HKB.out.cell 0;have y1:w3.cell? ⟨KB,1,none⟩=some (.string ⟨tx.toArray⟩):=HKB.out.cell 1
    have y2:w3.cell? ⟨KB,2,none⟩=some (.int .i64 nu):=HKB.out.cell 2
    have y3:w3.cell? ⟨KB,3,none⟩=some (.slice xn nm.length cn):=HKB.out.cell 3
    have y4:w3.cell? ⟨KB,4,none⟩=some (.slice xk k.len ck):=HKB.out.cell 4
    have y5:w3.cell? ⟨KB,5,none⟩=some (.int .i64 ps):=HKB.out.cell 5
    have HS3:Hid (PrS w0 B P w w3 ((l++([[b]]:List Nm).flatten)++Lib.join (ts.take (0+1)) cm)):=by
     have h1:=HS.out
     show PrS _ _ _ _ _ _
     rw [HJ0.out];simpa [Lib.join_nil,List.append_assoc] using h1
    clear HS HKB y0 y1 y2 y3 y4 y5 HCON;go_wp2_with fail;go_roundw
    case rel=>exact ⟨0+1,_,r,by go_num,by omega,HNX,HS3⟩
    case measure=>simp [intOf]; omega
   ·have HJ0:Hid (Lib.join (ts.take (i+1)) cm=Lib.join (ts.take i) cm++cm++E):=by show _=_; rw [HJ.out,if_neg hi0]
    have j1:decide ((i:Int) > 0)=true:=by simp; omega
    have i0:(0:Int) < (i:Int):=by omega
    have hbn:=(Below.refl wz.heap.size wz).alloc (Nat.le_refl _) (.cells #[.string ⟨#[44,32]⟩] 9)
    have HPU:=zH (put_any B P ((l++([[b]]:List Nm).flatten)++Lib.join (ts.take i) cm) wz.heap.size [[44,32]] (wz.alloc (.cells #[.string ⟨#[44,32]⟩] 9)) (HS.out.prt.below hbn) (Blk.new wz 9 #[.string ⟨#[44,32]⟩]) (by simp) (by have h1:=HJL.out; rw [HJ0.out] at h1; unfold Mw at h1; simp only [cm,List.length_append,List.flatten_cons,List.flatten_nil,List.append_nil,List.length_cons,List.length_nil] at h1 ⊢; omega) (by have h1:=HS.out.size; simp; omega))
    have e1:([[44,32]]:List Nm).length=1:=rfl
    rw [e1] at HPU;have HBN:=zH hbn;clear e1 hbn;go_wp2_with fail;refine HPU.out.mono ?_;rintro e w2 ⟨rfl,hp1,hf1⟩;have HS2:=zH (HS.out.next HBN.out hp1 hf1);have HKB2:=zH (hf1.blk (HKB.out.alloc _) pt_syn);clear HS HKB y0 y1 y2 y3 y4 y5 hp1 hf1 HPU HBN;have HS:=HS2;have HKB:=HKB2;clear HS2 HKB2;have y0:w2.cell? ⟨KB,0,none⟩=some (.int .i64 kd):=HKB.out.cell 0
    have y1:w2.cell? ⟨KB,1,none⟩=some (.string ⟨tx.toArray⟩):=HKB.out.cell 1
    have y2:w2.cell? ⟨KB,2,none⟩=some (.int .i64 nu):=HKB.out.cell 2
    have y3:w2.cell? ⟨KB,3,none⟩=some (.slice xn nm.length cn):=HKB.out.cell 3
    have y4:w2.cell? ⟨KB,4,none⟩=some (.slice xk k.len ck):=HKB.out.cell 4
    have y5:w2.cell? ⟨KB,5,none⟩=some (.int .i64 ps):=HKB.out.cell 5
    have HC:=zH (HCON.out w2 (((l++([[b]]:List Nm).flatten)++Lib.join (ts.take i) cm)++([[44,32]]:List Nm).flatten) HS.out.bel HS.out.prt (by have h1:=HJL.out; rw [HJ0.out] at h1; unfold Mw at h1 ⊢; simp only [cm,List.length_append,List.flatten_cons,List.flatten_nil,List.append_nil,List.length_cons,List.length_nil] at h1 ⊢; omega))
    go_wp2_with fail;refine HC.out.mono ?_;rintro e w3 ⟨rfl,hp1,hf1⟩;have HS2:=zH (HS.out.next (Below.refl _ _) hp1 hf1);have HKB2:=zH (hf1.blk HKB.out pt_syn);clear HS HKB y0 y1 y2 y3 y4 y5 hp1 hf1 HC;have HS:=HS2;have HKB:=HKB2;clear HS2 HKB2;have y0:w3.cell? ⟨KB,0,none⟩=some (.int .i64 kd):=HKB.out.cell 0;have y1:w3.cell? ⟨KB,1,none⟩=some (.string ⟨tx.toArray⟩):=HKB.out.cell 1
    have y2:w3.cell? ⟨KB,2,none⟩=some (.int .i64 nu):=HKB.out.cell 2
    have y3:w3.cell? ⟨KB,3,none⟩=some (.slice xn nm.length cn):=HKB.out.cell 3
    have y4:w3.cell? ⟨KB,4,none⟩=some (.slice xk k.len ck):=HKB.out.cell 4
    have y5:w3.cell? ⟨KB,5,none⟩=some (.int .i64 ps):=HKB.out.cell 5
    have HS3:Hid (PrS w0 B P w w3 ((l++([[b]]:List Nm).flatten)++Lib.join (ts.take (i+1)) cm)):=by
     have h1:=HS.out
     show PrS _ _ _ _ _ _
     rw [HJ0.out];simpa [cm,List.append_assoc] using h1
    clear HS HKB y0 y1 y2 y3 y4 y5 HCON;go_wp2_with fail;go_roundw
    case rel=>exact ⟨i+1,_,r,by go_num,by omega,HNX,HS3⟩
    case measure=>simp [intOf]; omega
  ·have dlt:decide ((i:Int) < (n:Int))=false:=by simp; omega
   have HS2:Hid (PrS w0 B P w wr ((l++([[b]]:List Nm).flatten)++Lib.join ts cm)):=by
    have h1:=HS.out
    rwa [List.take_of_length_le (by rw [HTL.out]; omega)] at h1
   clear HS;have HS:=HS2;clear HS2;have hbn:=(Below.refl wr.heap.size wr).alloc (Nat.le_refl _) (.cells #[.string ⟨#[c]⟩] 9)
   have HPU:=zH (put_any B P ((l++([[b]]:List Nm).flatten)++Lib.join ts cm) wr.heap.size [[c]] (wr.alloc (.cells #[.string ⟨#[c]⟩] 9)) (HS.out.prt.below hbn) (Blk.new wr 9 #[.string ⟨#[c]⟩]) (by simp) (by have h1:=HBND.out; unfold Mw at h1; first | (simp only [List.length_append,List.length_cons,List.length_nil] at h1 ⊢; omega) | (simp only [List.length_append,List.flatten_cons,List.flatten_nil,List.append_nil,List.length_cons,List.length_nil] at h1 ⊢; omega)) (by have h1:=HS.out.size; simp; omega))
   have e1:([[c]]:List Nm).length=1:=rfl
   rw [e1] at HPU;have HBN:=zH hbn;clear e1 hbn;go_wp2_with fail;refine HPU.out.mono ?_;rintro e w2 ⟨rfl,hp1,hf1⟩;have HS2:=zH (HS.out.next HBN.out hp1 hf1);clear HS hp1 hf1 HPU HBN;have HS:=HS2;clear HS2;go_wp2_with fail;first
    | refine bodyPost_ret (results_none rfl _ _ _) rfl ⟨rfl,?_,HS.out.fr⟩
    | refine bodyPost_end (results_none rfl _ _ _) rfl ⟨rfl,?_,HS.out.fr⟩
   have h1:=HS.out.prt
   simpa [List.append_assoc] using h1
end Go.Proofs.YtbaidkefobhipaaGreatDoor
