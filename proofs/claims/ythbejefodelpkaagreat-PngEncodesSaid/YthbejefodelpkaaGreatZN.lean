/-
  The library's sort at metadata: its bodies are those of the shelf (written by the kit's tool).
  Walks: search and sort of metadata (printed by gen_g15.py out of P5, Pl, Ps).
  Plain: the metadata of chunks. Walk: png.readEntries.
-/
import Derived.Shelf.SlSortCmp.WholeK
import Derived.Shelf.SlSortCmp.NoneTotal
import Derived.Test.YthbejefodelpkaaGreatProg
import Derived.Test.YthbejefodelpkaaGreatZG14
import Derived.Test.YthbejefodelpkaaGreatZE
namespace Go.Proofs
open Go.Shelf
def Tryz.sortM_ren : Go.Shelf.Ren := ⟨fun | 6 => 94 | 15 => 115 | 14 => 114 | 28 => 144 | 29 => 145 | 20 => 136 | 21 => 137 | 22 => 138 | 23 => 139 | 24 => 140 | 25 => 141 | 26 => 142 | 27 => 143 | 46 => 163 | 47 => 164 | 48 => 165 | 49 => 166 | 50 => 167 | 57 => 176 | n => n, fun | 22 => 37 | 24 => 65 | 25 => 102 | 3 => 3 | 39 => 86 | 0 => 0 | 53 => 60 | 55 => 130 | 4 => 4 | 46 => 146 | 45 => 145 | 50 => 150 | 5 => 5 | 9 => 9 | 66 => 172 | 70 => 176 | 76 => 189 | 77 => 127 | n => n, fun | n => n⟩
theorem Tryz.sortM : Go.Proofs.SlLaysF0.n6 Tryz.prog Tryz.sortM_ren := {
  mixed := by kernel_rfl
  f6 := ⟨Tryz.f94.name, by decide, Tryz.func94.trans (congrArg some (by kernel_rfl))⟩
  f14 := ⟨Tryz.f114.name, by decide, Tryz.func114.trans (congrArg some (by kernel_rfl))⟩
  f15 := Tryz.func115.trans (congrArg some (by kernel_rfl))
  f20 := ⟨Tryz.f136.name, by decide, Tryz.func136.trans (congrArg some (by kernel_rfl))⟩
  f21 := ⟨Tryz.f137.name, by decide, Tryz.func137.trans (congrArg some (by kernel_rfl))⟩
  f22 := ⟨Tryz.f138.name, by decide, Tryz.func138.trans (congrArg some (by kernel_rfl))⟩
  f23 := ⟨Tryz.f139.name, by decide, Tryz.func139.trans (congrArg some (by kernel_rfl))⟩
  f24 := ⟨Tryz.f140.name, by decide, Tryz.func140.trans (congrArg some (by kernel_rfl))⟩
  f25 := ⟨Tryz.f141.name, by decide, Tryz.func141.trans (congrArg some (by kernel_rfl))⟩
  f26 := ⟨Tryz.f142.name, by decide, Tryz.func142.trans (congrArg some (by kernel_rfl))⟩
  f27 := ⟨Tryz.f143.name, by decide, Tryz.func143.trans (congrArg some (by kernel_rfl))⟩
  f28 := Tryz.func144.trans (congrArg some (by kernel_rfl))
  f29 := Tryz.func145.trans (congrArg some (by kernel_rfl))
  f46 := ⟨Tryz.f163.name, by decide, Tryz.func163.trans (congrArg some (by kernel_rfl))⟩
  f47 := Tryz.func164.trans (congrArg some (by kernel_rfl))
  f48 := Tryz.func165.trans (congrArg some (by kernel_rfl))
  f49 := ⟨Tryz.f166.name, by decide, Tryz.func166.trans (congrArg some (by kernel_rfl))⟩
  f50 := ⟨Tryz.f167.name, by decide, Tryz.func167.trans (congrArg some (by kernel_rfl))⟩
  f57 := ⟨Tryz.f176.name, by decide, Tryz.func176.trans (congrArg some (by kernel_rfl))⟩
  t0 := Tryz.underlying0
  a0 := Tryz.isAgg0
  z0 := Tryz.sizeOf0
  v0 := Tryz.zeroValue0
  t3 := Tryz.underlying3
  a3 := Tryz.isAgg3
  z3 := Tryz.sizeOf3
  v3 := Tryz.zeroValue3
  t4 := Tryz.underlying4
  a4 := Tryz.isAgg4
  z4 := Tryz.sizeOf4
  v4 := Tryz.zeroValue4
  t5 := Tryz.underlying5
  a5 := Tryz.isAgg5
  z5 := Tryz.sizeOf5
  v5 := Tryz.zeroValue5
  t9 := Tryz.underlying9
  a9 := Tryz.isAgg9
  z9 := Tryz.sizeOf9
  v9 := Tryz.zeroValue9
  t22 := Tryz.underlying37
  a22 := Tryz.isAgg37
  z22 := Tryz.sizeOf37
  v22 := Tryz.zeroValue37
  t25 := Tryz.underlying102
  a25 := Tryz.isAgg102
  z25 := Tryz.sizeOf102
  v25 := Tryz.zeroValue102
  t39 := Tryz.underlying86
  a39 := Tryz.isAgg86
  z39 := Tryz.sizeOf86
  v39 := Tryz.zeroValue86
  t45 := Tryz.underlying145
  a45 := Tryz.isAgg145
  z45 := Tryz.sizeOf145
  v45 := Tryz.zeroValue145
  t46 := Tryz.underlying146
  a46 := Tryz.isAgg146
  z46 := Tryz.sizeOf146
  v46 := Tryz.zeroValue146
  t50 := Tryz.underlying150
  a50 := Tryz.isAgg150
  z50 := Tryz.sizeOf150
  v50 := Tryz.zeroValue150
  t53 := Tryz.underlying60
  a53 := Tryz.isAgg60
  z53 := Tryz.sizeOf60
  v53 := Tryz.zeroValue60
  t55 := Tryz.underlying130
  a55 := Tryz.isAgg130
  z55 := Tryz.sizeOf130
  v55 := Tryz.zeroValue130
  t66 := Tryz.underlying172
  a66 := Tryz.isAgg172
  z66 := Tryz.sizeOf172
  v66 := Tryz.zeroValue172
  t70 := Tryz.underlying176
  a70 := Tryz.isAgg176
  z70 := Tryz.sizeOf176
  v70 := Tryz.zeroValue176
  t76 := Tryz.underlying189
  a76 := Tryz.isAgg189
  z76 := Tryz.sizeOf189
  v76 := Tryz.zeroValue189
  t77 := Tryz.underlying127
  a77 := Tryz.isAgg127
  z77 := Tryz.sizeOf127
  v77 := Tryz.zeroValue127 }
end Go.Proofs
namespace Go.Proofs.YthbejefodelpkaaGreat
open Go.RowKit Go.Sort Go.Shelf Go.Lib
set_option maxRecDepth 100000

theorem isKey1_any (a b k : List UInt8) (kb : Nat) (w : World) (hk : w.cell? ⟨kb, 0, none⟩ = some (.string ⟨k.toArray⟩)) :
    Calls Tryz.prog 93 #[.agg #[.string ⟨a.toArray⟩, .string ⟨b.toArray⟩], .pointer (some ⟨kb, 0, none⟩)] w fun e w' => e = .returned (.bool (a == k)) ∧ Below w.heap.size w w' := by
  have hlt : kb < w.heap.size := World.block_lt_of_cell? w _ hk
  go_enter Tryz.func93, Tryz.ntmps93
  go_wp2_with fail
  have hbl := Blk.new w 65 #[.string ⟨a.toArray⟩, .string ⟨b.toArray⟩]
  have hk2 : (w.alloc (.cells #[.string ⟨a.toArray⟩, .string ⟨b.toArray⟩] 65)).cell? ⟨kb, 0, none⟩ = some (.string ⟨k.toArray⟩) :=
    (Below.cell ((Below.refl w.heap.size w).alloc (Nat.le_refl _) _) (p := ⟨kb, 0, none⟩) hlt).trans hk
  have hbz := (Below.refl w.heap.size w).alloc (Nat.le_refl _) (.cells #[.string ⟨a.toArray⟩, .string ⟨b.toArray⟩] 65)
  generalize w.alloc (.cells #[.string ⟨a.toArray⟩, .string ⟨b.toArray⟩] 65) = wz at *
  have y0 : wz.cell? ⟨w.heap.size, 0, none⟩ = some (.string ⟨a.toArray⟩) := hbl.cell 0
  clear hbl hk hlt
  have HBZ := Lib.hid hbz
  clear hbz
  generalize w.heap.size = B at *
  go_ret
  exact ⟨rfl, HBZ.out⟩

def anyK (l : List Mt) (k : List UInt8) : Bool := l.any fun m => m.1 == k
theorem anyK_take (l : List Mt) (k : List UInt8) (i : Nat) (hi : i < l.length) (m : Mt) (hm : l[i] = m) : anyK (l.take (i + 1)) k = (anyK (l.take i) k || m.1 == k) := by
  unfold anyK
  rw [List.take_succ_eq_append_getElem hi, List.any_append, hm]
  simp
theorem anyK_hit (l : List Mt) (k : List UInt8) (i : Nat) (hi : i < l.length) (m : Mt) (hm : l[i] = m) (h : (m.1 == k) = true) : anyK l k = true := by
  unfold anyK
  rw [List.any_eq_true]
  exact ⟨m, hm ▸ List.getElem_mem hi, h⟩

set_option maxHeartbeats 1000000 in
set_option maxRecDepth 100000 in
theorem indexFunc_any (v : Value) (l : List Mt) (k : List UInt8) (kb : Nat) (w : World) (hr : MRow w v l) (hk : w.cell? ⟨kb, 0, none⟩ = some (.string ⟨k.toArray⟩)) (hl : l.length ≤ 1000) :
    Calls Tryz.prog 113 #[v, .func (.func 93) #[] #[.pointer (some ⟨kb, 0, none⟩)]] w fun e w' => (∃ n : Int, e = .returned (.int .i64 n) ∧ decide (0 ≤ n) = anyK l k) ∧ Below w.heap.size w w' := by
  have hlt : kb < w.heap.size := World.block_lt_of_cell? w _ hk
  obtain ⟨x, c, rfl, hc1, hc2, hc3, hcell⟩ := id hr
  unfold maxLen at hc2
  have HK := Lib.hid hk
  clear hk hc3
  go_enter Tryz.func113, Tryz.ntmps113
  go_wp2_with fail
  go_loopw [8] (fun vi wr => ∃ i : Nat, vi = .int .i64 i ∧ i ≤ l.length ∧ Hid (anyK (l.take i) k = false) ∧ Hid (Below w.heap.size w wr)) (fun vi _ => l.length - (intOf vi).toNat)
  case atStart => exact ⟨0, rfl, Nat.zero_le _, rfl, Below.refl _ _⟩
  case round =>
    obtain ⟨i, rfl, hi, hch, hbw⟩ := hrel
    by_cases hli : i < l.length
    · have hne : l ≠ [] := by rintro rfl; simp at hli
      have hrw : MRow wr (.slice x l.length c) l := hr.below hbw.out
      obtain ⟨x', c', hv, -, -, -, hcell'⟩ := hrw
      cases hv
      obtain ⟨b, off, rfl, hcl'⟩ := hcell' hne
      obtain ⟨q1, q2⟩ := hcl' i hli
      clear hcl' hcell' hcell hr
      obtain ⟨mk, mv, hm⟩ : ∃ mk mv, l[i] = (mk, mv) := ⟨_, _, rfl⟩
      rw [hm] at q1 q2
      simp only at q1 q2
      have hkw : wr.cell? ⟨kb, 0, none⟩ = some (.string ⟨k.toArray⟩) := (hbw.out.cell (p := ⟨kb, 0, none⟩) hlt).trans HK.out
      have HC := Lib.hid (isKey1_any mk mv k kb wr hkw)
      have HT := Lib.hid (anyK_take l k i hli _ hm)
      have HH := Lib.hid (anyK_hit l k i hli _ hm)
      have hd : decide ((i : Int) < (l.length : Int)) = true := by simp; omega
      have i1 : (i : Int) < (l.length : Int) := by omega
      clear hm hkw
      generalize hn : l.length = n at *
      have HN := Lib.hid hn
      clear hn
      go_wp2_with fail
      refine HC.out.mono ?_
      rintro e w1 ⟨rfl, hb1⟩
      have hbw1 := Lib.hid (hbw.out.trans (hb1.mono hbw.out.size))
      clear q1 q2 hb1
      cases he : (mk == k) with
      | true =>
        go_wp2_with fail
        go_ret
        exact ⟨⟨i, rfl, by rw [HH.out he]; simp⟩, hbw1.out⟩
      | false =>
        go_wp2_with fail
        go_roundw
        case rel => exact ⟨i + 1, by go_num, by omega, by show _ = _; rw [HT.out, hch.out]; simpa using he, hbw1⟩
        case measure => simp [intOf]; omega
    · have hd : decide ((i : Int) < (l.length : Int)) = false := by simp; omega
      have HZ : Hid (anyK l k = false) := by show _ = _; have := hch.out; rwa [List.take_of_length_le (by omega)] at this
      go_wp2_with fail
      go_ret
      exact ⟨⟨-1, rfl, by rw [HZ.out]; rfl⟩, hbw.out⟩

theorem containsFunc_any (v : Value) (l : List Mt) (k : List UInt8) (kb : Nat) (w : World) (hr : MRow w v l) (hk : w.cell? ⟨kb, 0, none⟩ = some (.string ⟨k.toArray⟩)) (hl : l.length ≤ 1000) :
    Calls Tryz.prog 92 #[v, .func (.func 93) #[] #[.pointer (some ⟨kb, 0, none⟩)]] w fun e w' => e = .returned (.bool (anyK l k)) ∧ Below w.heap.size w w' := by
  have H := Lib.hid (indexFunc_any v l k kb w hr hk hl)
  clear hr hk
  go_enter Tryz.func92, Tryz.ntmps92
  go_wp2_with fail
  refine H.out.mono ?_
  rintro e w1 ⟨⟨n, rfl, hn⟩, hb⟩
  have HB := Lib.hid hb
  have HN := Lib.hid hn
  clear hn hb
  go_wp2_with fail
  go_ret
  exact ⟨ret_bool HN.out, HB.out⟩

/-- Insertion into sorted metadata. -/
def insM : List Mt → Mt → List Mt
  | [], m => [m]
  | q :: l, m => if Op.bytesLess m.1 q.1 = true then m :: q :: l else q :: insM l m
def sortM (l : List Mt) : List Mt := l.foldl insM []
def ltM (a b : Mt) : Prop := Op.bytesLess a.1 b.1 = true
theorem insM_perm (l : List Mt) (m : Mt) : (insM l m).Perm (m :: l) := by
  induction l with
  | nil => exact List.Perm.refl _
  | cons q l ih =>
    unfold insM
    split
    · exact List.Perm.refl _
    · exact (ih.cons q).trans (List.Perm.swap m q l)
theorem insM_sorted (l : List Mt) (m : Mt) (hs : l.Pairwise ltM) (hn : ∀ q ∈ l, q.1 ≠ m.1) : (insM l m).Pairwise ltM := by
  induction l with
  | nil => simp [insM]
  | cons q l ih =>
    rw [List.pairwise_cons] at hs
    unfold insM
    split
    · rename_i h
      rw [List.pairwise_cons, List.pairwise_cons]
      refine ⟨fun x hx => ?_, hs⟩
      rcases List.mem_cons.1 hx with rfl | hx
      · exact h
      · exact less_trans _ _ _ h (hs.1 x hx)
    · rename_i h
      rw [List.pairwise_cons]
      refine ⟨fun x hx => ?_, ih hs.2 (fun y hy => hn y (List.mem_cons_of_mem _ hy))⟩
      have hx' := (insM_perm l m).mem_iff.1 hx
      rcases List.mem_cons.1 hx' with rfl | hx'
      · exact less_total _ _ (by simpa using h) (fun e => hn q (List.mem_cons_self) e.symm)
      · exact hs.1 x hx'
/-- Keys are distinct. -/
def DistK (l : List Mt) : Prop := l.Pairwise fun a b => a.1 ≠ b.1
theorem distK_perm {l l' : List Mt} (h : l.Perm l') (hd : DistK l) : DistK l' := hd.perm h (fun h e => h e.symm)
theorem sortM_aux (l acc : List Mt) (hd : DistK (acc ++ l)) (hs : acc.Pairwise ltM) : (l.foldl insM acc).Perm (acc ++ l) ∧ (l.foldl insM acc).Pairwise ltM := by
  induction l generalizing acc with
  | nil => exact ⟨by simp, hs⟩
  | cons m l ih =>
    have hp : (insM acc m).Perm (acc ++ [m]) := (insM_perm acc m).trans (List.perm_append_comm (l₁ := [m]) (l₂ := acc))
    have hp2 : (insM acc m ++ l).Perm (acc ++ m :: l) := by
      have := hp.append_right l
      simpa using this
    have hn : ∀ q ∈ acc, q.1 ≠ m.1 := by
      intro q hq
      unfold DistK at hd
      rw [List.pairwise_append] at hd
      exact hd.2.2 q hq m List.mem_cons_self
    have := ih (insM acc m) (distK_perm hp2.symm hd) (insM_sorted acc m hs hn)
    exact ⟨this.1.trans hp2, this.2⟩
theorem sortM_perm (l : List Mt) (hd : DistK l) : (sortM l).Perm l ∧ (sortM l).Pairwise ltM := by
  have := sortM_aux l [] (by simpa using hd) (by simp)
  unfold sortM
  simpa using this
theorem sorted_one (a b : List Mt) (hp : a.Perm b) (ha : a.Pairwise ltM) (hb : b.Pairwise ltM) : a = b := by
  induction a generalizing b with
  | nil => exact (List.nil_perm.1 hp).symm
  | cons x a ih =>
    cases b with
    | nil => exact absurd hp (by simp)
    | cons y b =>
      rw [List.pairwise_cons] at ha hb
      have hxy : x = y := by
        have h1 := hp.mem_iff.1 (List.mem_cons_self (a := x) (l := a))
        have h2 := hp.mem_iff.2 (List.mem_cons_self (a := y) (l := b))
        rcases List.mem_cons.1 h1 with h | h
        · exact h
        · rcases List.mem_cons.1 h2 with h' | h'
          · exact h'.symm
          · have l1 := hb.1 x h
            have l2 := ha.1 y h'
            have := less_trans _ _ _ l1 l2
            rw [less_irrefl] at this; cases this
      subst hxy
      rw [ih b (List.Perm.cons_inv hp) ha.2 hb.2]
def cmpK (a b : List UInt8) : Int := if Op.bytesLess a b = true then -1 else if (a == b) = true then 0 else 1
theorem isNaN_any (s : ByteArray) (w : World) : Calls Tryz.prog 116 #[.string s] w fun e w' => e = .returned (.bool false) ∧ w = w' := by
  go_enter Tryz.func116, Tryz.ntmps116
  go_wp2_with fail
  go_ret
  exact ⟨ret_bool (by simp), rfl⟩
set_option maxHeartbeats 1000000 in
theorem compare_any (a b : List UInt8) (w : World) : Calls Tryz.prog 96 #[.string ⟨a.toArray⟩, .string ⟨b.toArray⟩] w fun e w' => e = .returned (.int .i64 (cmpK a b)) ∧ w = w' := by
  have HC : Hid (cmpK a b = if Op.bytesLess a b = true then -1 else if (a == b) = true then 0 else 1) := rfl
  have H1 := Lib.hid (fun w => isNaN_any ⟨a.toArray⟩ w)
  have H2 := Lib.hid (fun w => isNaN_any ⟨b.toArray⟩ w)
  go_enter Tryz.func96, Tryz.ntmps96
  go_wp2_with fail
  refine (H1.out _).mono ?_
  rintro e w1 ⟨rfl, rfl⟩
  go_wp2_with fail
  refine (H2.out _).mono ?_
  rintro e w1 ⟨rfl, rfl⟩
  cases h1 : Op.bytesLess a b with
  | true =>
    go_wp2_with fail
    go_ret
    exact ⟨by rw [HC.out, h1]; rfl, rfl⟩
  | false =>
    cases h2 : (a == b) with
    | true =>
      go_wp2_with fail
      go_ret
      exact ⟨by rw [HC.out, h1, h2]; rfl, rfl⟩
    | false =>
      go_wp2_with fail
      go_ret
      exact ⟨by rw [HC.out, h1, h2]; rfl, rfl⟩
def cfM (x y : Mt) : Int := cmpK x.1 y.1
theorem ltM_eq (x y : Mt) : ltOf cfM x y = Op.bytesLess x.1 y.1 := by
  unfold ltOf cfM cmpK
  split
  · rename_i h; rw [h]; rfl
  · rename_i h
    have : Op.bytesLess x.1 y.1 = false := by simpa using h
    rw [this]
    split <;> rfl
theorem swoM : SWO (ltOf cfM) where
  irrefl x := by rw [ltM_eq]; exact less_irrefl _
  trans x y z h1 h2 := by rw [ltM_eq] at *; exact less_trans _ _ _ h1 h2
  ntrans x y z h1 h2 := by
    rw [ltM_eq] at *
    rw [Bool.eq_false_iff]
    intro h
    by_cases e : x.1 = y.1
    · rw [e, h2] at h; cases h
    · have := less_trans _ _ _ (less_total _ _ h1 e) h
      rw [h2] at this; cases this
theorem closM_any (x y : Mt) (W : World) : Calls Tryz.prog 95 #[.agg #[.string ⟨x.1.toArray⟩, .string ⟨x.2.toArray⟩], .agg #[.string ⟨y.1.toArray⟩, .string ⟨y.2.toArray⟩]] W fun e w' => e = .returned (.int .i64 (cfM x y)) ∧ ∃ q os', w' = grow (W.drewN q) os' := by
  have hcon := Lib.hid (fun W => compare_any x.1 y.1 W)
  unfold cfM
  generalize cmpK x.1 y.1 = r at *
  go_enter Tryz.func95, Tryz.ntmps95
  go_wp2_with fail
  refine (hcon.out _).mono ?_
  rintro e w1 ⟨rfl, rfl⟩
  go_wp2_with fail
  go_ret
  exact ⟨rfl, 0, _, by rw [alloc_eq_grow, alloc_eq_grow, grow_grow]; rfl⟩
theorem cmpLaysM (blk off size : Nat) (w : World) : CmpLays Tryz.prog 95 #[] mcell 2 cfM blk off size w :=
  fun _ _ _ _ x y => closM_any x y _
theorem mcell_len (m : Mt) : (mcell m).length = 2 := rfl

/-- A row of metadata holds what the sort asks. -/
theorem holdsM {w : World} {b off : Nat} {l : List Mt} (hc : ∀ i (h : i < l.length), MCell w b off i l[i]) (hf : ∀ j, w.frozen? ⟨b, j, none⟩ = false) : HoldsK mcell 2 w b off l.toArray := by
  intro j hj
  rw [size_flatK] at hj
  refine ⟨?_, hf _⟩
  have hi : j / 2 < l.length := by simp at hj; omega
  have e : (id (flatK mcell 2 l.toArray)[j]! : Value) = (mcell l[j / 2])[j % 2]! := by
    show (flatK mcell 2 l.toArray)[j]! = _
    rw [get_flatK mcell 2 l.toArray j hj]
    congr 1
    simp [hi]
  rw [e]
  obtain ⟨c1, c2⟩ := hc (j / 2) hi
  rcases Nat.mod_two_eq_zero_or_one j with h | h
  · rw [h]
    have : j = j / 2 * 2 := by omega
    rw [← this] at c1; exact c1
  · rw [h]
    have : off + j / 2 * 2 + 1 = off + j := by omega
    rw [this] at c2; exact c2
theorem holdsM_back {w : World} {b off : Nat} {d : Array Mt} (h : HoldsK mcell 2 w b off d) (i : Nat) (hi : i < d.toList.length) : MCell w b off i d.toList[i] := by
  have hi' : i < d.size := by simpa using hi
  have h1 := (h (i * 2) (by rw [size_flatK]; omega)).1
  have h2 := (h (i * 2 + 1) (by rw [size_flatK]; omega)).1
  simp only [id] at h1 h2
  rw [get_flatK mcell 2 d _ (by omega)] at h1 h2
  have e1 : i * 2 / 2 = i := by omega
  have e2 : (i * 2 + 1) / 2 = i := by omega
  have e3 : i * 2 % 2 = 0 := by omega
  have e4 : (i * 2 + 1) % 2 = 1 := by omega
  rw [e1, e3, getElem!_pos d i hi'] at h1
  rw [e2, e4, getElem!_pos d i hi'] at h2
  exact ⟨h1, h2⟩
theorem fr_sort {w : World} {B blk : Nat} {t : TypeId} {cs : Array Value} (hb : Blk w blk t cs) (hB : B ≤ blk) (n : Nat) (d : Array Mt) (os : Array Obj) : Fr B [t] w (sortWorldK mcell 2 w blk 0 n d os) := by
  have hlt := hb.lt
  unfold sortWorldK
  refine ⟨rfl, rfl, rfl, ?_, fun k hk hc => ?_⟩
  · rw [size_grow, size_putRowK]; exact Nat.le_add_right _ _
  · rw [heap_grow_old _ _ (by rw [size_putRowK]; exact hk)]
    have hne : k ≠ blk := by
      rintro rfl
      rcases hc with hc | ⟨cs', t', fr', e', ht'⟩
      · omega
      · unfold Blk at hb
        rw [hb] at e'; injection e' with e'; injection e' with _ e2
        exact ht' (by simp [e2])
    show (mapBlock (Sort.ahead w n) blk _).heap[k]? = w.heap[k]?
    simp only [mapBlock, Array.getElem?_modify]
    rw [if_neg (fun e => hne e.symm)]
    rfl

theorem sortFunc_any (v : Value) (l : List Mt) (B : Nat) (w : World) (ho : MOwn w B v l) (hd : DistK l) (hl : l.length ≤ 16) :
    Calls Tryz.prog 94 #[v, .func (.func 95) #[] #[]] w fun e w' => e = .returned (.tuple #[]) ∧ MRow w' v (sortM l) ∧ Fr B [65] w w' := by
  obtain ⟨hxl, hx⟩ := ho
  rcases hx with ⟨rfl, h0⟩ | ⟨g, cap, cur, rfl, hBg, hg, hc, hm, hcs, ht⟩
  · have : l = [] := List.eq_nil_of_length_eq_zero h0
    subst this
    have hcon := AnyF.slices_SortFunc_none Tryz.sortM none 0 (.func (.func 95) #[] #[]) w
    change Calls Tryz.prog 94 _ _ _ at hcon
    refine hcon.mono ?_
    rintro e w' ⟨rfl, rfl⟩
    exact ⟨rfl, mrow_nil _, Fr.refl _ _ _⟩
  · have hbk : Blk w g 65 cur := hg
    have hown : MOwn w B (.slice (some ⟨g, 0, none⟩) l.length cap) l := ⟨hxl, .inr ⟨g, cap, cur, rfl, hBg, hg, hc, hm, hcs, ht⟩⟩
    have hcell : ∀ i (h : i < l.length), MCell w g 0 i l[i] := by
      intro i hi
      obtain ⟨x, c, hv, -, -, -, hcc⟩ := hown.row
      cases hv
      obtain ⟨b, off, hbo, hcl⟩ := hcc (by rintro rfl; simp at hi)
      cases hbo
      exact hcl i hi
    have hH := holdsM hcell (fun j => hbk.frozen j)
    have eg : ∀ args w, (callFunc 95 args).run Tryz.prog w = .ok (.enter 95 args) w := enters_of Tryz.func95 (by kernel_rfl) rfl
    have hcon := AnyQ.slices_SortFunc Tryz.sortM 2 Tryz.isAgg65 Tryz.sizeOf65 mcell mcell_len (fun x v hv => by simp [mcell] at hv; rcases hv with rfl | rfl <;> rfl) cfM swoM 95 #[] g 0 cap l.toArray w eg (cmpLaysM g 0 _ w) hH hbk.lt (by simp; omega)
    change Calls Tryz.prog 94 _ _ _ at hcon
    have hs : l.toArray.size = l.length := by simp
    rw [hs] at hcon
    refine hcon.mono ?_
    rintro e w' ⟨rfl, d', n, os, hp, hso, rfl⟩
    have hds : d'.size = l.length := by have := hp.1; simpa using this
    have hperm : d'.toList.Perm l := by
      have h2 := hp.2.2
      have e1 : (d'.extract 0 l.length).toList = d'.toList := by rw [← hds]; simp
      have e2 : (l.toArray.extract 0 l.length).toList = l := by simp
      rw [e1, e2] at h2; exact h2
    have hsorted : d'.toList.Pairwise ltM := by
      rw [List.pairwise_iff_getElem]
      intro i j hi hj hij
      have hi' : i < d'.size := by simpa using hi
      have hj' : j < d'.size := by simpa using hj
      have h3 := hso i j (Nat.zero_le _) hij (by omega)
      rw [ltM_eq, getElem!_pos d' i hi', getElem!_pos d' j hj'] at h3
      have hdd := distK_perm hperm.symm hd
      unfold DistK at hdd
      rw [List.pairwise_iff_getElem] at hdd
      exact less_total _ _ h3 (fun e => hdd i j hi hj hij e.symm)
    have hfin : d'.toList = sortM l := sorted_one _ _ (hperm.trans (sortM_perm l hd).1.symm) hsorted (sortM_perm l hd).2
    refine ⟨rfl, ?_, fr_sort hbk hBg n d' os⟩
    have hH2 := holdsK_sortWorldK_c mcell 2 w g 0 l.toArray d' n os hH hbk.lt (by simpa using hds)
    rw [← hfin]
    have hl2 : d'.toList.length = l.length := by simpa using hds
    refine ⟨_, cap, by rw [hl2], by omega, hm, (fun h => by cases h), fun _ => ⟨g, 0, rfl, fun i hi => holdsM_back hH2 i hi⟩⟩
end Go.Proofs.YthbejefodelpkaaGreat
namespace Go.Proofs.YthbejefodelpkaaGreat
open Go.RowKit
set_option maxRecDepth 100000

/-- The entry of a chunk. -/
def entT (m : Mt) : Option Mt :=
  if (m.1 == textN && decide (fnd 0 m.2 < m.2.length) && okTxt 32 33 (m.2.take (fnd 0 m.2)) && okTxt 256 32 (m.2.drop (fnd 0 m.2 + 1))) = true then some (m.2.take (fnd 0 m.2), m.2.drop (fnd 0 m.2 + 1)) else none
def addT (ms : List Mt) (m : Mt) : List Mt :=
  match entT m with
  | none => ms
  | some e => if anyK ms e.1 = true ∨ 16 ≤ ms.length then ms else ms ++ [e]
def entG (l : List Mt) : List Mt := l.foldl addT []
def entsP (l : List Mt) : List Mt := sortM (entG l)
theorem addT_ok (ms : List Mt) (m : Mt) (h : DistK ms ∧ ms.length ≤ 16) : DistK (addT ms m) ∧ (addT ms m).length ≤ 16 := by
  unfold addT
  split
  · exact h
  · rename_i e _
    split
    · exact h
    · rename_i hn
      refine ⟨?_, by simp; omega⟩
      unfold DistK
      rw [List.pairwise_append]
      refine ⟨h.1, by simp, fun a ha b hb => ?_⟩
      simp at hb
      subst hb
      intro he
      apply hn
      left
      unfold anyK
      rw [List.any_eq_true]
      exact ⟨a, ha, by simpa using he⟩
theorem entG_ok (l : List Mt) : DistK (entG l) ∧ (entG l).length ≤ 16 := by
  have key : ∀ (l ms : List Mt), DistK ms ∧ ms.length ≤ 16 → DistK (l.foldl addT ms) ∧ (l.foldl addT ms).length ≤ 16 := by
    intro l
    induction l with
    | nil => intro ms h; exact h
    | cons m r ih => intro ms h; exact ih _ (addT_ok ms m h)
  exact key l [] ⟨by simp [DistK], by simp⟩
theorem entG_take (l : List Mt) (i : Nat) (hi : i < l.length) : entG (l.take (i + 1)) = addT (entG (l.take i)) l[i] := by
  unfold entG
  rw [List.take_succ_eq_append_getElem hi, List.foldl_append]
  rfl

set_option maxHeartbeats 8000000 in
theorem readEntries_any (v : Value) (l : List Mt) (w : World) (hr : MRow w v l) (ht : totP l ≤ 1000000000) :
    Calls Tryz.prog 63 #[v] w fun e w' => ∃ v', e = .returned v' ∧ MRow w' v' (entsP l) ∧ Below w.heap.size w w' := by
  have HR := Lib.hid hr
  obtain ⟨x, cc, rfl, hc1, hc2, -, -⟩ := id hr
  unfold maxLen at hc2
  have HEP : Hid (entsP l = sortM (entG l)) := rfl
  obtain ⟨B, hB⟩ : ∃ B, B = w.heap.size := ⟨_, rfl⟩
  have HB := Lib.hid hB
  rw [← hB]
  clear hr hB
  go_enter Tryz.func63, Tryz.ntmps63
  go_wp2_with fail
  go_loopw [3, 12] (fun vm vi wr => ∃ (i : Nat) (xm : Option Addr) (nm cm : Nat), vi = .int .i64 i ∧ vm = .slice xm nm cm ∧ i ≤ l.length ∧ nm ≤ 16 ∧ Hid ((entG (l.take i)).length = nm) ∧ Hid (MOwn wr B (.slice xm nm cm) (entG (l.take i))) ∧ Hid (Below B w wr) ∧ Hid (B ≤ wr.heap.size)) (fun _ vi _ => l.length - (intOf vi).toNat)
  case atStart => exact ⟨0, none, 0, 0, rfl, rfl, Nat.zero_le _, Nat.zero_le _, rfl, World.ownsRow_nil _ _ _ _, Below.refl _ _, Nat.le_of_eq HB.out⟩
  case round =>
    obtain ⟨i, xm, nm, cm, rfl, rfl, hi, hn16, hnl, hown, hbw, hsz⟩ := hrel
    by_cases hli : i < l.length
    · obtain ⟨b, off, rfl, q1, q2⟩ := (HR.out.below (by rw [← HB.out]; exact hbw.out)).at2 i hli rfl
      have hvl := totP_get l i hli
      have HTK := Lib.hid (entG_take l i hli)
      have hok := (entG_ok (l.take i))
      obtain ⟨mk, mv, hm⟩ : ∃ mk mv, l[i] = (mk, mv) := ⟨_, _, rfl⟩
      rw [hm] at q1 q2 hvl HTK
      simp only at q1 q2 hvl
      obtain ⟨ms, hms⟩ : ∃ ms, entG (l.take i) = ms := ⟨_, rfl⟩
      rw [hms] at hnl hown HTK hok
      have HTK2 : Hid (entG (l.take (i + 1)) = match entT (mk, mv) with | none => ms | some e => if anyK ms e.1 = true ∨ 16 ≤ ms.length then ms else ms ++ [e]) := HTK.out
      have HNX : Hid (∀ ms', entG (l.take (i + 1)) = ms' → ms'.length ≤ 16) := fun ms' h => by rw [← h]; exact (entG_ok _).2
      have hd : decide ((i : Int) < (l.length : Int)) = true := by simp; omega
      have i1 : (i : Int) < (l.length : Int) := by omega
      have HBA := Lib.hid (hbw.out.alloc hsz.out (.cells #[.string ⟨mk.toArray⟩, .string ⟨mv.toArray⟩] 53))
      have HOA : Hid (MOwn (wr.alloc (.cells #[.string ⟨mk.toArray⟩, .string ⟨mv.toArray⟩] 53)) B (.slice xm nm cm) ms) := World.ownsRow.alloc hown.out _
      have HQB := Lib.hid (Blk.new wr 53 #[.string ⟨mk.toArray⟩, .string ⟨mv.toArray⟩])
      have HSA : Hid (B ≤ (wr.alloc (.cells #[.string ⟨mk.toArray⟩, .string ⟨mv.toArray⟩] 53)).heap.size) := by have := hsz.out; show _ ≤ _; simp; omega
      clear hm hms HTK hbw hown hsz hok
      go_upto_region 5 with fail
      clear q1 q2
      generalize wr.alloc (.cells #[.string ⟨mk.toArray⟩, .string ⟨mv.toArray⟩] 53) = wa at *
      generalize wr.heap.size = KB at *
      have q2 : wa.cell? ⟨KB, 1, none⟩ = some (.string ⟨mv.toArray⟩) := HQB.out.cell 1
      have HCUT := Lib.hid (fun w => cut_any mv 0 w (by unfold maxLen; omega))
      unfold cutV at HCUT
      have HET : Hid (entT (mk, mv) = if (mk == textN && decide (fnd 0 mv < mv.length) && okTxt 32 33 (mv.take (fnd 0 mv)) && okTxt 256 32 (mv.drop (fnd 0 mv + 1))) = true then some (mv.take (fnd 0 mv), mv.drop (fnd 0 mv + 1)) else none) := rfl
      have HLE : Hid ((mv.take (fnd 0 mv)).length ≤ maxLen ∧ (mv.drop (fnd 0 mv + 1)).length ≤ maxLen) := by
        show _ ∧ _
        rw [List.length_take, List.length_drop]; unfold maxLen; omega
      generalize mv.take (fnd 0 mv) = a1 at *
      generalize mv.drop (fnd 0 mv + 1) = a2 at *
      obtain ⟨b2, hb2⟩ : ∃ b, decide (fnd 0 mv < mv.length) = b := ⟨_, rfl⟩
      rw [hb2] at HCUT HET
      clear hb2
      have HK := Lib.hid (fun w => gwithin_any ⟨a1.toArray⟩ 32 33 w (by have := HLE.out.1; simpa [ByteArray.size] using this) (by decide) (by decide))
      have HV := Lib.hid (fun w => gwithin_any ⟨a2.toArray⟩ 256 32 w (by have := HLE.out.2; simpa [ByteArray.size] using this) (by decide) (by decide))
      change Hid (∀ w, Calls Tryz.prog 91 #[.string ⟨a1.toArray⟩, .int .i64 32, .int .u8 33] w fun e w' => e = .returned (.bool (okTxt 32 33 a1)) ∧ w = w') at HK
      change Hid (∀ w, Calls Tryz.prog 91 #[.string ⟨a2.toArray⟩, .int .i64 256, .int .u8 32] w fun e w' => e = .returned (.bool (okTxt 256 32 a2)) ∧ w = w') at HV
      obtain ⟨ik, hik⟩ : ∃ b, okTxt 32 33 a1 = b := ⟨_, rfl⟩
      obtain ⟨iv, hiv⟩ : ∃ b, okTxt 256 32 a2 = b := ⟨_, rfl⟩
      obtain ⟨nb, hnb⟩ : ∃ b : Bool, (mk == [116, 69, 88, 116]) = b := ⟨_, rfl⟩
      have hnb2 : (mk == textN) = nb := hnb
      rw [hik] at HK HET
      rw [hiv] at HV HET
      rw [hnb2] at HET
      clear hik hiv hnb2 HLE
      go_wp2_with fail
      refine (HCUT.out _).mono ?_
      rintro e w2 ⟨rfl, n, rfl⟩
      have HB2 : Hid (Below B w (wa.drewN n)) := HBA.out.trans ⟨rfl, rfl, rfl, Nat.le_refl _, fun _ _ => rfl⟩
      have HO2 : Hid (MOwn (wa.drewN n) B (.slice xm nm cm) ms) := HOA.out
      have HQ2 : Hid (Blk (wa.drewN n) KB 53 #[.string ⟨mk.toArray⟩, .string ⟨mv.toArray⟩]) := HQB.out
      have HS2 : Hid (B ≤ (wa.drewN n).heap.size) := HSA.out
      clear HBA HOA HQB HSA q2
      generalize wa.drewN n = w2 at *
      have HO3 := Lib.hid (World.ownsRow.alloc HO2.out (.cells #[.string ⟨a1.toArray⟩] 9))
      have HF3 := Lib.hid (HB2.out.alloc HS2.out (.cells #[.string ⟨a1.toArray⟩] 9))
      have HB3 := Lib.hid (Blk.new w2 9 #[.string ⟨a1.toArray⟩])
      have HQ3 := Lib.hid (HQ2.out.alloc (.cells #[.string ⟨a1.toArray⟩] 9))
      have HS3 : Hid (B ≤ (w2.alloc (.cells #[.string ⟨a1.toArray⟩] 9)).heap.size) := by have := HS2.out; show _ ≤ _; simp; omega
      go_upto_region 6 with fail
      clear HB2 HO2 HQ2 HS2
      generalize w2.alloc (.cells #[.string ⟨a1.toArray⟩] 9) = wz at *
      generalize w2.heap.size = kb at *
      have q1 : wz.cell? ⟨KB, 0, none⟩ = some (.string ⟨mk.toArray⟩) := HQ3.out.cell 0
      have k1 : wz.cell? ⟨kb, 0, none⟩ = some (.string ⟨a1.toArray⟩) := HB3.out.cell 0
      obtain ⟨bad, hbad⟩ : ∃ b, (!(nb && b2 && ik && iv)) = b := ⟨_, rfl⟩
      go_cut [39] from 23 to 38 (fun v39 wx => v39 = .bool bad ∧ wx = wz)
      case first =>
        clear HET HTK2 HNX
        cases nb with
        | false => subst hbad; go_wp2_with fail; go_meet; case rel => exact ⟨rfl, rfl⟩
        | true =>
        cases b2 with
        | false => subst hbad; go_wp2_with fail; go_meet; case rel => exact ⟨rfl, rfl⟩
        | true =>
        cases ik with
        | false =>
          subst hbad
          go_wp2_with fail
          refine (HK.out _).mono ?_
          rintro e w3 ⟨rfl, rfl⟩
          go_wp2_with fail; go_meet; case rel => exact ⟨rfl, rfl⟩
        | true =>
          go_wp2_with fail
          refine (HK.out _).mono ?_
          rintro e w3 ⟨rfl, rfl⟩
          go_wp2_with fail
          refine (HV.out _).mono ?_
          rintro e w3 ⟨rfl, rfl⟩
          cases iv with
          | false => subst hbad; go_wp2_with fail; go_meet; case rel => exact ⟨rfl, rfl⟩
          | true => subst hbad; go_wp2_with fail; go_meet; case rel => exact ⟨rfl, rfl⟩
      case rest =>
      obtain ⟨rfl, rfl⟩ := hcut
      clear HK HV HCUT q1
      cases bad with
      | true =>
        have HN : Hid (entG (l.take (i + 1)) = ms) := by
          show _ = _
          rw [HTK2.out, HET.out, if_neg (by intro h; rw [h] at hbad; cases hbad)]
        clear hbad
        go_wp2_with fail
        go_roundw
        case rel => exact ⟨i + 1, xm, nm, cm, by go_num, rfl, by omega, by omega, by show _ = _; rw [HN.out]; exact hnl.out, by show MOwn _ _ _ _; rw [HN.out]; exact HO3.out, HF3, HS3⟩
        case measure => simp [intOf]; omega
      | false =>
        have HN : Hid (entG (l.take (i + 1)) = if anyK ms a1 = true ∨ 16 ≤ nm then ms else ms ++ [(a1, a2)]) := by
          show _ = _
          rw [HTK2.out, HET.out, if_pos (by simpa using hbad)]
          show (if anyK ms a1 = true ∨ 16 ≤ ms.length then ms else ms ++ [(a1, a2)]) = _
          rw [hnl.out]
        have HCF := Lib.hid (containsFunc_any (.slice xm nm cm) ms a1 kb wc (MOwn.row HO3.out) (HB3.out.cell 0) (by rw [hnl.out]; omega))
        clear hbad HTK2 HET
        go_wp2_with fail
        refine HCF.out.mono ?_
        rintro e w4 ⟨rfl, hb4⟩
        have HO4 : Hid (MOwn w4 B (.slice xm nm cm) ms) := (Fr.of_below (B := 0) hb4 []).owns HO3.out (by simp)
        have HF4 : Hid (Below B w w4) := HF3.out.trans (hb4.mono HS3.out)
        have HB4 : Hid (Blk w4 kb 9 #[.string ⟨a1.toArray⟩]) := (Fr.of_below (B := 0) hb4 []).blk HB3.out (by simp)
        have HS4 : Hid (B ≤ w4.heap.size) := Nat.le_trans HS3.out hb4.size
        clear HO3 HF3 HB3 HS3 HQ3 hb4 k1
        cases hak : anyK ms a1 with
        | true =>
          have HN2 : Hid (entG (l.take (i + 1)) = ms) := by show _ = _; rw [HN.out, if_pos (.inl hak)]
          go_wp2_with fail
          go_roundw
          case rel => exact ⟨i + 1, xm, nm, cm, by go_num, rfl, by omega, by omega, by show _ = _; rw [HN2.out]; exact hnl.out, by show MOwn _ _ _ _; rw [HN2.out]; exact HO4.out, HF4, HS4⟩
          case measure => simp [intOf]; omega
        | false =>
          by_cases h16 : nm < 16
          · have HN2 : Hid (entG (l.take (i + 1)) = ms ++ [(a1, a2)]) := by show _ = _; rw [HN.out, if_neg (by rw [hak]; simp; omega)]
            have d16 : decide ((nm : Int) < 16) = true := by simp; omega
            have hcell : w4.cell? ⟨kb, 0, none⟩ = some (.string ⟨a1.toArray⟩) := HB4.out.cell 0
            have hown : w4.ownsRow B 65 2 (.slice xm nm cm) nm (mcells ms) := by
              have h := HO4.out
              unfold MOwn at h
              rw [hnl.out] at h
              exact h
            have hszr := HS4.out
            clear hak
            go_wp2_with (at_builtin; refine wpList_app el_meta hown hszr rfl rfl rfl (m := 0) (cs := #[.string ⟨a1.toArray⟩, .string ⟨a2.toArray⟩]) rfl (by simp [Value.oneCell']) rfl (by omega) (by unfold maxLen; omega) ?_)
            intro r5 cap5 w5 ho5 hg5 _
            have HB5 : Hid (Below B w w5) := (below_app HF4.out hszr hown hg5).1
            have HS5 : Hid (B ≤ w5.heap.size) := (below_app HF4.out hszr hown hg5).2
            have HO5 : Hid (MOwn w5 B (.slice (some ⟨r5, 0, none⟩) (nm + 1) cap5) (entG (l.take (i + 1)))) := by
              show MOwn _ _ _ _
              rw [HN2.out]
              exact mown_more ho5 [(a1, a2)] rfl (by rw [hnl.out]; rfl)
            clear ho5 hg5 hown hszr hcell
            go_wp2_with fail
            go_roundw
            case rel => exact ⟨i + 1, some ⟨r5, 0, none⟩, nm + 1, cap5, by go_num, rfl, by omega, by omega, by show _ = _; rw [HN2.out]; simp; exact hnl.out, HO5, HB5, HS5⟩
            case measure => simp [intOf]; omega
          · have HN2 : Hid (entG (l.take (i + 1)) = ms) := by show _ = _; rw [HN.out, if_pos (.inr (by omega))]
            have d16 : decide ((nm : Int) < 16) = false := by simp; omega
            go_wp2_with fail
            go_roundw
            case rel => exact ⟨i + 1, xm, nm, cm, by go_num, rfl, by omega, by omega, by show _ = _; rw [HN2.out]; exact hnl.out, by show MOwn _ _ _ _; rw [HN2.out]; exact HO4.out, HF4, HS4⟩
            case measure => simp [intOf]; omega
    · have hd : decide ((i : Int) < (l.length : Int)) = false := by simp; omega
      rw [List.take_of_length_le (by omega)] at hown hnl
      have HSO := Lib.hid (sortFunc_any (.slice xm nm cm) (entG l) B wr hown.out (entG_ok l).1 (entG_ok l).2)
      clear hown hnl
      go_wp2_with fail
      refine HSO.out.mono ?_
      rintro e w4 ⟨rfl, hm4, hf4⟩
      have HM4 := Lib.hid hm4
      have HB4 : Hid (Below B w w4) := hbw.out.trans (hf4.below hsz.out)
      clear hm4 hf4
      go_wp2_with fail
      go_ret
      exact ⟨_, rfl, by rw [HEP.out]; exact HM4.out, HB4.out⟩
end Go.Proofs.YthbejefodelpkaaGreat
