/-
  Walks: slices.SortFunc at metadata.
-/
import Derived.Test.YtakkdgcmeeilbaaDoorPl
import Derived.Test.YtakkdgcmeeilbaaDoorSrt
namespace Go.Proofs.YtakkdgcmeeilbaaDoor
open Go.RowKit Go.Sort Go.Shelf Go.Lib

def cmpK (a b : List UInt8) : Int := if Op.bytesLess a b = true then -1 else if (a == b) = true then 0 else 1
theorem isNaN_any (s : ByteArray) (w : World) : Calls Tryd.prog 71 #[.string s] w fun e w' => e = .returned (.bool false) ∧ w = w' := by
  go_enter Tryd.func71, Tryd.ntmps71
  go_wp2_with fail
  go_ret
  exact ⟨ret_bool (by simp), rfl⟩
set_option maxHeartbeats 1000000 in
theorem compare_any (a b : List UInt8) (w : World) : Calls Tryd.prog 54 #[.string ⟨a.toArray⟩, .string ⟨b.toArray⟩] w fun e w' => e = .returned (.int .i64 (cmpK a b)) ∧ w = w' := by
  have HC : Hid (cmpK a b = if Op.bytesLess a b = true then -1 else if (a == b) = true then 0 else 1) := rfl
  have H1 := Lib.hid (fun w => isNaN_any ⟨a.toArray⟩ w)
  have H2 := Lib.hid (fun w => isNaN_any ⟨b.toArray⟩ w)
  go_enter Tryd.func54, Tryd.ntmps54
  go_wp2_with fail
  refine (H1.out _).mono ?_
  rintro e w1 ⟨rfl, rfl⟩
  go_wp2_with fail
  refine (H2.out _).mono ?_
  rintro e w1 ⟨rfl, rfl⟩
  cases h1 : Op.bytesLess a b with
  | true =>
    go_wp2_with fail
    go_ret
    exact ⟨by rw [HC.out, h1]; rfl, rfl⟩
  | false =>
    cases h2 : (a == b) with
    | true =>
      go_wp2_with fail
      go_ret
      exact ⟨by rw [HC.out, h1, h2]; rfl, rfl⟩
    | false =>
      go_wp2_with fail
      go_ret
      exact ⟨by rw [HC.out, h1, h2]; rfl, rfl⟩
def cfM (x y : Mt) : Int := cmpK x.1 y.1
theorem ltM_eq (x y : Mt) : ltOf cfM x y = Op.bytesLess x.1 y.1 := by
  unfold ltOf cfM cmpK
  split
  · rename_i h; rw [h]; rfl
  · rename_i h
    have : Op.bytesLess x.1 y.1 = false := by simpa using h
    rw [this]
    split <;> rfl
theorem swoM : SWO (ltOf cfM) where
  irrefl x := by rw [ltM_eq]; exact less_irrefl _
  trans x y z h1 h2 := by rw [ltM_eq] at *; exact less_trans _ _ _ h1 h2
  ntrans x y z h1 h2 := by
    rw [ltM_eq] at *
    rw [Bool.eq_false_iff]
    intro h
    by_cases e : x.1 = y.1
    · rw [e, h2] at h; cases h
    · have := less_trans _ _ _ (less_total _ _ h1 e) h
      rw [h2] at this; cases this
theorem closM_any (x y : Mt) (W : World) : Calls Tryd.prog 53 #[.agg #[.string ⟨x.1.toArray⟩, .string ⟨x.2.toArray⟩], .agg #[.string ⟨y.1.toArray⟩, .string ⟨y.2.toArray⟩]] W fun e w' => e = .returned (.int .i64 (cfM x y)) ∧ ∃ q os', w' = grow (W.drewN q) os' := by
  have hcon := Lib.hid (fun W => compare_any x.1 y.1 W)
  unfold cfM
  generalize cmpK x.1 y.1 = r at *
  go_enter Tryd.func53, Tryd.ntmps53
  go_wp2_with fail
  refine (hcon.out _).mono ?_
  rintro e w1 ⟨rfl, rfl⟩
  go_wp2_with fail
  go_ret
  exact ⟨rfl, 0, _, by rw [alloc_eq_grow, alloc_eq_grow, grow_grow]; rfl⟩
theorem cmpLaysM (blk off size : Nat) (w : World) : CmpLays Tryd.prog 53 #[] mcell 2 cfM blk off size w :=
  fun _ _ _ _ x y => closM_any x y _
theorem mcell_len (m : Mt) : (mcell m).length = 2 := rfl

/-- A row of metadata holds what the sort asks. -/
theorem holdsM {w : World} {b off : Nat} {l : List Mt} (hc : ∀ i (h : i < l.length), MCell w b off i l[i]) (hf : ∀ j, w.frozen? ⟨b, j, none⟩ = false) : HoldsK mcell 2 w b off l.toArray := by
  intro j hj
  rw [size_flatK] at hj
  refine ⟨?_, hf _⟩
  have hi : j / 2 < l.length := by simp at hj; omega
  have e : (id (flatK mcell 2 l.toArray)[j]! : Value) = (mcell l[j / 2])[j % 2]! := by
    show (flatK mcell 2 l.toArray)[j]! = _
    rw [get_flatK mcell 2 l.toArray j hj]
    congr 1
    simp [hi]
  rw [e]
  obtain ⟨c1, c2⟩ := hc (j / 2) hi
  rcases Nat.mod_two_eq_zero_or_one j with h | h
  · rw [h]
    have : j = j / 2 * 2 := by omega
    rw [← this] at c1; exact c1
  · rw [h]
    have : off + j / 2 * 2 + 1 = off + j := by omega
    rw [this] at c2; exact c2
theorem holdsM_back {w : World} {b off : Nat} {d : Array Mt} (h : HoldsK mcell 2 w b off d) (i : Nat) (hi : i < d.toList.length) : MCell w b off i d.toList[i] := by
  have hi' : i < d.size := by simpa using hi
  have h1 := (h (i * 2) (by rw [size_flatK]; omega)).1
  have h2 := (h (i * 2 + 1) (by rw [size_flatK]; omega)).1
  simp only [id] at h1 h2
  rw [get_flatK mcell 2 d _ (by omega)] at h1 h2
  have e1 : i * 2 / 2 = i := by omega
  have e2 : (i * 2 + 1) / 2 = i := by omega
  have e3 : i * 2 % 2 = 0 := by omega
  have e4 : (i * 2 + 1) % 2 = 1 := by omega
  rw [e1, e3, getElem!_pos d i hi'] at h1
  rw [e2, e4, getElem!_pos d i hi'] at h2
  exact ⟨h1, h2⟩
theorem fr_sort {w : World} {B blk : Nat} {t : TypeId} {cs : Array Value} (hb : Blk w blk t cs) (hB : B ≤ blk) (n : Nat) (d : Array Mt) (os : Array Obj) : Fr B [t] w (sortWorldK mcell 2 w blk 0 n d os) := by
  have hlt := hb.lt
  unfold sortWorldK
  refine ⟨rfl, rfl, rfl, ?_, fun k hk hc => ?_⟩
  · rw [size_grow, size_putRowK]; exact Nat.le_add_right _ _
  · rw [heap_grow_old _ _ (by rw [size_putRowK]; exact hk)]
    have hne : k ≠ blk := by
      rintro rfl
      rcases hc with hc | ⟨cs', t', fr', e', ht'⟩
      · omega
      · unfold Blk at hb
        rw [hb] at e'; injection e' with e'; injection e' with _ e2
        exact ht' (by simp [e2])
    show (mapBlock (Sort.ahead w n) blk _).heap[k]? = w.heap[k]?
    simp only [mapBlock, Array.getElem?_modify]
    rw [if_neg (fun e => hne e.symm)]
    rfl

theorem sortFunc_any (v : Value) (l : List Mt) (B : Nat) (w : World) (ho : MOwn w B v l) (hd : DistK l) (hl : l.length ≤ 16) :
    Calls Tryd.prog 52 #[v, .func (.func 53) #[] #[]] w fun e w' => e = .returned (.tuple #[]) ∧ MRow w' v (sortM l) ∧ Fr B [44] w w' := by
  obtain ⟨hxl, hx⟩ := ho
  rcases hx with ⟨rfl, h0⟩ | ⟨g, cap, cur, rfl, hBg, hg, hc, hm, hcs, ht⟩
  · have : l = [] := List.eq_nil_of_length_eq_zero h0
    subst this
    have hcon := AnyF.slices_SortFunc_none Tryd.sortM none 0 (.func (.func 53) #[] #[]) w
    change Calls Tryd.prog 52 _ _ _ at hcon
    refine hcon.mono ?_
    rintro e w' ⟨rfl, rfl⟩
    exact ⟨rfl, mrow_nil _, Fr.refl _ _ _⟩
  · have hbk : Blk w g 44 cur := hg
    have hown : MOwn w B (.slice (some ⟨g, 0, none⟩) l.length cap) l := ⟨hxl, .inr ⟨g, cap, cur, rfl, hBg, hg, hc, hm, hcs, ht⟩⟩
    have hcell : ∀ i (h : i < l.length), MCell w g 0 i l[i] := by
      intro i hi
      obtain ⟨x, c, hv, -, -, -, hcc⟩ := hown.row
      cases hv
      obtain ⟨b, off, hbo, hcl⟩ := hcc (by rintro rfl; simp at hi)
      cases hbo
      exact hcl i hi
    have hH := holdsM hcell (fun j => hbk.frozen j)
    have eg : ∀ args w, (callFunc 53 args).run Tryd.prog w = .ok (.enter 53 args) w := enters_of Tryd.func53 (by kernel_rfl) rfl
    have hcon := AnyQ.slices_SortFunc Tryd.sortM 2 Tryd.isAgg44 Tryd.sizeOf44 mcell mcell_len (fun x v hv => by simp [mcell] at hv; rcases hv with rfl | rfl <;> rfl) cfM swoM 53 #[] g 0 cap l.toArray w eg (cmpLaysM g 0 _ w) hH hbk.lt (by simp; omega)
    change Calls Tryd.prog 52 _ _ _ at hcon
    have hs : l.toArray.size = l.length := by simp
    rw [hs] at hcon
    refine hcon.mono ?_
    rintro e w' ⟨rfl, d', n, os, hp, hso, rfl⟩
    have hds : d'.size = l.length := by have := hp.1; simpa using this
    have hperm : d'.toList.Perm l := by
      have h2 := hp.2.2
      have e1 : (d'.extract 0 l.length).toList = d'.toList := by rw [← hds]; simp
      have e2 : (l.toArray.extract 0 l.length).toList = l := by simp
      rw [e1, e2] at h2; exact h2
    have hsorted : d'.toList.Pairwise ltM := by
      rw [List.pairwise_iff_getElem]
      intro i j hi hj hij
      have hi' : i < d'.size := by simpa using hi
      have hj' : j < d'.size := by simpa using hj
      have h3 := hso i j (Nat.zero_le _) hij (by omega)
      rw [ltM_eq, getElem!_pos d' i hi', getElem!_pos d' j hj'] at h3
      have hdd := distK_perm hperm.symm hd
      unfold DistK at hdd
      rw [List.pairwise_iff_getElem] at hdd
      exact less_total _ _ h3 (fun e => hdd i j hi hj hij e.symm)
    have hfin : d'.toList = sortM l := sorted_one _ _ (hperm.trans (sortM_perm l hd).1.symm) hsorted (sortM_perm l hd).2
    refine ⟨rfl, ?_, fr_sort hbk hBg n d' os⟩
    have hH2 := holdsK_sortWorldK_c mcell 2 w g 0 l.toArray d' n os hH hbk.lt (by simpa using hds)
    rw [← hfin]
    have hl2 : d'.toList.length = l.length := by simpa using hds
    refine ⟨_, cap, by rw [hl2], by omega, hm, (fun h => by cases h), fun _ => ⟨g, 0, rfl, fun i hi => holdsM_back hH2 i hi⟩⟩
end Go.Proofs.YtakkdgcmeeilbaaDoor
