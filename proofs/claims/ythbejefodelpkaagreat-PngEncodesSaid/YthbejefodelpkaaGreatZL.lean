/-
  Walks: a strings.Builder that the call has made itself (WriteString, String).
  Walks: find, count, data, within of png.
-/
import Derived.Test.YthbejefodelpkaaGreatZA
import Derived.Test.YthbejefodelpkaaGreatProg
import Derived.Shelf.Strings.Builder1
import Derived.Lib.Builder
import Derived.Laws.Externs
import Derived.Test.YthbejefodelpkaaGreatZG11
import Derived.Test.YthbejefodelpkaaGreatZE
namespace Go.Proofs
open Go.Shelf
def Tryz.laysStr_ren : Go.Shelf.Ren := ⟨fun | 169 => 110 | n => n, fun | 70 => 108 | 9 => 9 | 0 => 0 | 72 => 110 | 37 => 54 | 127 => 138 | 3 => 3 | 5 => 5 | n => n, fun | n => n⟩
theorem Tryz.laysStr : Go.Proofs.Lays.n169 Tryz.prog Tryz.laysStr_ren := {
  mixed := by kernel_rfl
  f169 := Tryz.func110.trans (congrArg some (by kernel_rfl))
  t0 := Tryz.underlying0
  a0 := Tryz.isAgg0
  z0 := Tryz.sizeOf0
  v0 := Tryz.zeroValue0
  t3 := Tryz.underlying3
  a3 := Tryz.isAgg3
  z3 := Tryz.sizeOf3
  v3 := Tryz.zeroValue3
  t9 := Tryz.underlying9
  a9 := Tryz.isAgg9
  z9 := Tryz.sizeOf9
  v9 := Tryz.zeroValue9
  t37 := Tryz.underlying54
  a37 := Tryz.isAgg54
  z37 := Tryz.sizeOf54
  v37 := Tryz.zeroValue54
  t70 := Tryz.underlying108
  a70 := Tryz.isAgg108
  z70 := Tryz.sizeOf108
  v70 := Tryz.zeroValue108
  t72 := Tryz.underlying110
  a72 := Tryz.isAgg110
  z72 := Tryz.sizeOf110
  v72 := Tryz.zeroValue110
  t127 := Tryz.underlying138
  a127 := Tryz.isAgg138
  z127 := Tryz.sizeOf138
  v127 := Tryz.zeroValue138 }
theorem Tryz.builderExtra : Builder.Extra Tryz.prog Tryz.laysStr_ren := {
  sizeBuilder := by kernel_rfl
  liesBuilder := by kernel_rfl
  t5 := Tryz.underlying5
  a5 := Tryz.isAgg5
  z5 := Tryz.sizeOf5
  v5 := Tryz.zeroValue5
  infoByte := by kernel_rfl
  cellsByte := by kernel_rfl
  sizeByte := by kernel_rfl
  neB5 := by decide }
end Go.Proofs
namespace Go.Proofs.YthbejefodelpkaaGreat
open Go.RowKit

/-- The builder in block b holds the bytes l. -/
def Bld (B b : Nat) (l : List UInt8) (w : World) : Prop := Lib.IsBuilder 110 5 B b (Lib.byteCells l) w

theorem bldString_any (B b : Nat) (l : List UInt8) (w : World) (h : Bld B b l w) (hBw : B ≤ w.heap.size) :
    Calls Tryz.prog 110 #[.pointer (some ⟨b, 0, none⟩)] w fun e w' => e = .returned (.string ⟨l.toArray⟩) ∧ Below B w w' :=
  Any.Builder_String_any Tryz.laysStr Tryz.builderExtra B b l w h hBw

theorem infoBld : ∃ j, Tryz.prog.info? 110 = some j ∧ j.size ≠ 0 := by
  obtain ⟨j, hj, hs⟩ := Option.map_eq_some_iff.1 (show (Tryz.prog.info? 110).map (·.size) = some 2 by kernel_rfl)
  exact ⟨j, hj, by rw [hs]; decide⟩
theorem liesBld : liesAt Tryz.prog Tryz.prog.depth 110 (2 / Tryz.prog.cellsOf 110) 0 110 1 = true := by kernel_rfl

set_option maxHeartbeats 1000000 in
set_option maxRecDepth 100000 in
theorem copyCheck_used (b : Nat) (w : World) (h0 : w.cell? ⟨b, 0, none⟩ = some (.pointer (some ⟨b, 0, none⟩))) :
    Calls Tryz.prog 133 #[.pointer (some ⟨b, 0, none⟩)] w fun e w' => e = .returned (.tuple #[]) ∧ w' = w := by
  obtain ⟨j, hj, _⟩ := infoBld
  have hne := fun w => Lib.run_neq_ptr_same (P := Tryz.prog) w (⟨b, 0, none⟩ : Addr) Tryz.underlying108 hj
  go_enter Tryz.func133, Tryz.ntmps133
  go_wp2
  go_end0
  exact ⟨rfl, rfl⟩
set_option maxHeartbeats 1000000 in
set_option maxRecDepth 100000 in
theorem copyCheck_fresh (b : Nat) (w : World) (h0 : w.cell? ⟨b, 0, none⟩ = some (.pointer none)) (hsh : w.shape? b = some (110, 2)) (hfz : w.frozen? ⟨b, 0, none⟩ = false) :
    Calls Tryz.prog 133 #[.pointer (some ⟨b, 0, none⟩)] w fun e w' => e = .returned (.tuple #[]) ∧ w' = w.setCell ⟨b, 0, none⟩ (.pointer (some ⟨b, 0, none⟩)) := by
  obtain ⟨j, hj, hjs⟩ := infoBld
  go_enter Tryz.func133, Tryz.ntmps133
  go_wp2
  rw [Lib.run_to_unsafe w ⟨b, 0, none⟩ Tryz.underlying108 Tryz.underlying157 hj hjs hsh (Nat.zero_lt_succ 1)]
  simp only [Result.andThen]
  rw [Oper.upon_value]
  go_wp2
  rw [run_callFunc_extern Tryz.func153 (by kernel_rfl) (by kernel_rfl) (by kernel_rfl) (e := Extern.AbiNoEscape.same) (by kernel_rfl)]
  rw [Lib.run_noEscape]
  simp only [Result.andThen]
  rw [Oper.upon_value]
  go_wp2
  rw [Lib.run_from_unsafe w ⟨b, 0, none⟩ Tryz.underlying157 Tryz.underlying108 hj hsh liesBld]
  simp only [Result.andThen]
  rw [Oper.upon_value]
  go_wp2
  go_end0
  exact ⟨rfl, rfl⟩
theorem copyCheck_any (B b : Nat) (bs : List Value) (w : World) (h : Lib.IsBuilder 110 5 B b bs w) :
    Calls Tryz.prog 133 #[.pointer (some ⟨b, 0, none⟩)] w fun e w' => e = .returned (.tuple #[]) ∧ (Lib.BuilderAt 110 5 B b (.pointer (some ⟨b, 0, none⟩)) bs w' ∧ Below B w w') := by
  rcases h with h | h
  · refine (copyCheck_fresh b w h.cell0 h.shape h.frozen0).mono ?_
    rintro e w' ⟨rfl, rfl⟩
    exact ⟨rfl, h.used _, (Below.refl B w).setCell (p := ⟨b, 0, none⟩) h.1 _⟩
  · refine (copyCheck_used b w h.cell0).mono ?_
    rintro e w' ⟨rfl, rfl⟩
    exact ⟨rfl, h, Below.refl B _⟩

theorem elb_u8 : Elem Tryz.prog 54 5 (.int .u8 0) 1 1 := by
  refine ⟨Tryz.underlying54, ?_, rfl, by decide⟩
  exact info_parts (by kernel_rfl)
theorem brow_shape {w : World} {b : Nat} {e : TypeId} {v : Value} {l : List UInt8} (h : BRow w b e v l) : ∃ x c, v = .slice x l.length c := by
  rcases h.2 with ⟨rfl, h0⟩ | ⟨g, cap, cur, rfl, _⟩
  · exact ⟨none, 0, by rw [h0]⟩
  · exact ⟨_, _, rfl⟩
set_option maxHeartbeats 1000000 in
set_option maxRecDepth 100000 in
theorem writeString_any (B b : Nat) (l : List UInt8) (s : ByteArray) (w : World) (h : Bld B b l w) (hlen : l.length + s.size ≤ 140737488355328) (hBw : B ≤ w.heap.size) :
    Calls Tryz.prog 109 #[.pointer (some ⟨b, 0, none⟩), .string s] w fun e w' => e = .returned (.tuple #[.int .i64 s.size, .nilIface]) ∧ Bld B b (l ++ s.data.toList) w' ∧ Below B w w' := by
  go_enter Tryz.func109, Tryz.ntmps109
  go_wp2_with fail
  refine (copyCheck_any B b _ _ h).mono ?_
  rintro e w1 ⟨rfl, h1, hb1⟩
  obtain ⟨hB, v, hbk, hown, hne⟩ := h1
  have c0 : w1.cell? ⟨b, 0, none⟩ = some (.pointer (some ⟨b, 0, none⟩)) := by rw [Lib.cell_of_heap hbk]; rfl
  have c1 : w1.cell? ⟨b, 1, none⟩ = some v := by rw [Lib.cell_of_heap hbk]; rfl
  have hrow : BRow w1 B 5 v l := by
    have := hown
    rw [Lib.byteCells_length] at this
    exact this
  have hsz := hb1.size
  go_wp2_with (at_builtin; refine wpList_app_str elb_u8 Tryz.underlying9 hrow (by omega) rfl rfl rfl rfl hlen ?_)
  intro v2 w2 hrow2 hg2
  obtain ⟨x2, k2, rfl⟩ := brow_shape hrow2
  have hlt : b < w1.heap.size := by
    rcases Nat.lt_or_ge b w1.heap.size with h' | h'
    · exact h'
    · simp [Array.getElem?_eq_none h'] at hbk
  have hbk2 : w2.heap[b]? = some (.cells #[.pointer (some ⟨b, 0, none⟩), v] 110 (0, 0)) := (hg2.block b hlt (fun e => hne e.symm)).trans hbk
  have c2 : w2.cell? ⟨b, 1, none⟩ = some v := by rw [Lib.cell_of_heap hbk2]; rfl
  have f2 := Lib.frozen_of_heap hbk2 1
  have hput := Lib.BuilderAt.put (bs' := Lib.byteCells (l ++ s.data.toList)) (B := B) (e := 5) hB hbk2 (by rw [Lib.byteCells_length]; exact hrow2) (by decide)
  have hll : (l ++ s.data.toList).length = l.length + s.size := by simp
  rw [hll] at hput
  have HP := Lib.hid hput
  clear hput hll
  have hb2 : Below B w w2 := hb1.grown hg2 (by omega) (fun k hk => (hrow.lt k hk).1)
  go_wp2_with fail
  refine bodyPost_ret (v := .tuple #[.int .i64 (s.size : Int), .nilIface]) (by simp [results, Tryz.f109, go_sem]) rfl ⟨rfl, Or.inr HP.out, hb2.setCell hB _⟩
end Go.Proofs.YthbejefodelpkaaGreat
namespace Go.Proofs.YthbejefodelpkaaGreat
open Go.RowKit
set_option maxRecDepth 100000

/-- The index of the first chunk with a name, or the number of chunks. -/
def firP (l : List Mt) (k : List UInt8) : Nat := l.findIdx fun m => m.1 == k
def finP (l : List Mt) (k : List UInt8) : Int := if firP l k < l.length then (firP l k : Int) else -1
def cntP (l : List Mt) (k : List UInt8) : Nat := l.countP fun m => m.1 == k
def datP (l : List Mt) (k : List UInt8) : List UInt8 := (l.filter fun m => m.1 == k).flatMap (·.2)
/-- The bytes of all data. -/
def totP (l : List Mt) : Nat := (l.flatMap (·.2)).length
theorem firP_le (l : List Mt) (k : List UInt8) : firP l k ≤ l.length := List.findIdx_le_length
theorem firP_hit (l : List Mt) (k : List UInt8) (i : Nat) (hi : i < l.length) (h1 : (l[i].1 == k) = true) (h2 : ∀ j (h : j < l.length), j < i → (l[j].1 == k) = false) : firP l k = i := by
  unfold firP
  rw [List.findIdx_eq hi]
  exact ⟨h1, fun j hji => h2 j (by omega) hji⟩
theorem firP_none (l : List Mt) (k : List UInt8) (h2 : ∀ j (h : j < l.length), (l[j].1 == k) = false) : firP l k = l.length := by
  unfold firP
  rw [List.findIdx_eq_length]
  intro x hx
  obtain ⟨j, hj, rfl⟩ := List.mem_iff_getElem.1 hx
  exact h2 j hj
theorem datP_le (l : List Mt) (k : List UInt8) : (datP l k).length ≤ totP l := by
  unfold datP totP
  induction l with
  | nil => simp
  | cons m r ih =>
    rw [List.filter_cons]
    split
    · simp only [List.flatMap_cons, List.length_append]; omega
    · simp only [List.flatMap_cons, List.length_append]; omega
theorem totP_get (l : List Mt) (i : Nat) (hi : i < l.length) : l[i].2.length ≤ totP l := by
  unfold totP
  induction l generalizing i with
  | nil => simp at hi
  | cons m r ih =>
    simp only [List.flatMap_cons, List.length_append]
    cases i with
    | zero => simp
    | succ j => have := ih j (by simpa using hi); simp only [List.getElem_cons_succ]; omega
theorem datP_take (l : List Mt) (k : List UInt8) (i : Nat) (hi : i < l.length) : datP (l.take (i + 1)) k = datP (l.take i) k ++ (if (l[i].1 == k) = true then l[i].2 else []) := by
  unfold datP
  rw [List.take_succ_eq_append_getElem hi, List.filter_append, List.flatMap_append]
  congr 1
  rw [List.filter_cons]
  split <;> simp
theorem cntP_take (l : List Mt) (k : List UInt8) (i : Nat) (hi : i < l.length) : cntP (l.take (i + 1)) k = cntP (l.take i) k + (if (l[i].1 == k) = true then 1 else 0) := by
  unfold cntP
  rw [List.take_succ_eq_append_getElem hi, List.countP_append]
  simp [List.countP_cons]
theorem cntP_le (l : List Mt) (k : List UInt8) : cntP l k ≤ l.length := List.countP_le_length
theorem totP_take (l : List Mt) (i : Nat) : totP (l.take i) ≤ totP l := by
  unfold totP
  have h := congrArg (fun x => (x.flatMap (·.2)).length) (List.take_append_drop i l)
  simp only [List.flatMap_append, List.length_append] at h
  omega
theorem MRow.at2 {w : World} {v : Value} {l : List Mt} (h : MRow w v l) (i : Nat) (hi : i < l.length) {x : Option Addr} {n c : Nat} (hv : v = .slice x n c) : ∃ b off, x = some ⟨b, off, none⟩ ∧ MCell w b off i l[i] := by
  obtain ⟨x', c', hv', -, -, -, h4⟩ := h
  rw [hv'] at hv
  cases hv
  obtain ⟨b, off, rfl, hc⟩ := h4 (by rintro rfl; simp at hi)
  exact ⟨b, off, rfl, hc i hi⟩

theorem isName_any (a b k : List UInt8) (kb : Nat) (w : World) (hk : w.cell? ⟨kb, 0, none⟩ = some (.string ⟨k.toArray⟩)) :
    Calls Tryz.prog 108 #[.agg #[.string ⟨a.toArray⟩, .string ⟨b.toArray⟩], .pointer (some ⟨kb, 0, none⟩)] w fun e w' => e = .returned (.bool (a == k)) ∧ Below w.heap.size w w' := by
  have hlt : kb < w.heap.size := World.block_lt_of_cell? w _ hk
  go_enter Tryz.func108, Tryz.ntmps108
  go_wp2_with fail
  have hbl := Blk.new w 53 #[.string ⟨a.toArray⟩, .string ⟨b.toArray⟩]
  have hk2 : (w.alloc (.cells #[.string ⟨a.toArray⟩, .string ⟨b.toArray⟩] 53)).cell? ⟨kb, 0, none⟩ = some (.string ⟨k.toArray⟩) :=
    (Below.cell ((Below.refl w.heap.size w).alloc (Nat.le_refl _) _) (p := ⟨kb, 0, none⟩) hlt).trans hk
  have hbz := (Below.refl w.heap.size w).alloc (Nat.le_refl _) (.cells #[.string ⟨a.toArray⟩, .string ⟨b.toArray⟩] 53)
  generalize w.alloc (.cells #[.string ⟨a.toArray⟩, .string ⟨b.toArray⟩] 53) = wz at *
  have y0 : wz.cell? ⟨w.heap.size, 0, none⟩ = some (.string ⟨a.toArray⟩) := hbl.cell 0
  clear hbl hk hlt
  have HBZ := Lib.hid hbz
  clear hbz
  generalize w.heap.size = B at *
  go_ret
  exact ⟨rfl, HBZ.out⟩

set_option maxHeartbeats 1000000 in
theorem cIndexFunc_any (v : Value) (l : List Mt) (k : List UInt8) (kb : Nat) (w : World) (hr : MRow w v l) (hk : w.cell? ⟨kb, 0, none⟩ = some (.string ⟨k.toArray⟩)) (hl : l.length ≤ 1000000000) :
    Calls Tryz.prog 107 #[v, .func (.func 108) #[] #[.pointer (some ⟨kb, 0, none⟩)]] w fun e w' => e = .returned (.int .i64 (finP l k)) ∧ Below w.heap.size w w' := by
  have hlt : kb < w.heap.size := World.block_lt_of_cell? w _ hk
  obtain ⟨x, c, rfl, hc1, hc2, -, -⟩ := id hr
  unfold maxLen at hc2
  have HK := Lib.hid hk
  have HR := Lib.hid hr
  clear hk hr
  go_enter Tryz.func107, Tryz.ntmps107
  go_wp2_with fail
  go_loopw [8] (fun vi wr => ∃ i : Nat, vi = .int .i64 i ∧ i ≤ l.length ∧ Hid (∀ j (h : j < l.length), j < i → (l[j].1 == k) = false) ∧ Hid (Below w.heap.size w wr)) (fun vi _ => l.length - (intOf vi).toNat)
  case atStart => exact ⟨0, rfl, Nat.zero_le _, fun j _ hj => absurd hj (by omega), Below.refl _ _⟩
  case round =>
    obtain ⟨i, rfl, hi, hch, hbw⟩ := hrel
    by_cases hli : i < l.length
    · obtain ⟨b, off, rfl, q1, q2⟩ := (HR.out.below hbw.out).at2 i hli rfl
      obtain ⟨mk, mv, hm⟩ : ∃ mk mv, l[i] = (mk, mv) := ⟨_, _, rfl⟩
      rw [hm] at q1 q2
      simp only at q1 q2
      have hkw : wr.cell? ⟨kb, 0, none⟩ = some (.string ⟨k.toArray⟩) := (hbw.out.cell (p := ⟨kb, 0, none⟩) hlt).trans HK.out
      have HC := Lib.hid (isName_any mk mv k kb wr hkw)
      have HH : Hid ((mk == k) = true → finP l k = (i : Int)) := fun h => by
        unfold finP
        rw [firP_hit l k i hli (by rw [hm]; exact h) hch.out, if_pos hli]
      have HT : Hid ((mk == k) = false → ∀ j (h : j < l.length), j < i + 1 → (l[j].1 == k) = false) := fun h j hj hji => by
        by_cases e : j = i
        · subst e; rw [hm]; exact h
        · exact hch.out j hj (by omega)
      have hd : decide ((i : Int) < (l.length : Int)) = true := by simp; omega
      have i1 : (i : Int) < (l.length : Int) := by omega
      clear hm hkw
      go_wp2_with fail
      refine HC.out.mono ?_
      rintro e w1 ⟨rfl, hb1⟩
      have hbw1 := Lib.hid (hbw.out.trans (hb1.mono hbw.out.size))
      clear q1 q2 hb1
      cases he : (mk == k) with
      | true =>
        go_wp2_with fail
        go_ret
        exact ⟨by rw [HH.out he]; rfl, hbw1.out⟩
      | false =>
        go_wp2_with fail
        go_roundw
        case rel => exact ⟨i + 1, by go_num, by omega, HT.out he, hbw1⟩
        case measure => simp [intOf]; omega
    · have hd : decide ((i : Int) < (l.length : Int)) = false := by simp; omega
      have HZ : Hid (finP l k = -1) := by
        show _ = _
        unfold finP
        rw [firP_none l k (fun j hj => hch.out j hj (by omega)), if_neg (by omega)]
      go_wp2_with fail
      go_ret
      exact ⟨by rw [HZ.out]; rfl, hbw.out⟩

theorem find_any (v : Value) (l : List Mt) (k : ByteArray) (w : World) (hr : MRow w v l) (hl : l.length ≤ 1000000000) :
    Calls Tryz.prog 84 #[v, .string k] w fun e w' => e = .returned (.int .i64 (finP l k.data.toList)) ∧ Below w.heap.size w w' := by
  obtain ⟨K, hK⟩ : ∃ K, k.data.toList = K := ⟨_, rfl⟩
  have hk : k = ⟨K.toArray⟩ := by rw [← hK]
  rw [hK, hk]
  have HR := Lib.hid hr
  have HB0 := Lib.hid ((Below.refl w.heap.size w).alloc (Nat.le_refl _) (.cells #[.string ⟨K.toArray⟩] 9))
  have HK0 := Lib.hid (Blk.new w 9 #[.string ⟨K.toArray⟩])
  have HF := Lib.hid (fun w1 h1 h2 => cIndexFunc_any v l K w.heap.size w1 h1 h2 hl)
  have hsz := Nat.le_refl w.heap.size
  go_enter Tryz.func84, Tryz.ntmps84
  go_wp2_with fail
  generalize w.alloc (.cells #[.string ⟨K.toArray⟩] 9) = w0 at *
  have HR0 := Lib.hid (HR.out.below HB0.out)
  have k0 : w0.cell? ⟨w.heap.size, 0, none⟩ = some (.string ⟨K.toArray⟩) := HK0.out.cell 0
  refine (HF.out _ HR0.out k0).mono ?_
  rintro e w1 ⟨rfl, hb⟩
  have HB := Lib.hid (HB0.out.trans (hb.mono HB0.out.size))
  clear hb k0
  go_wp2_with fail
  go_ret
  exact ⟨rfl, HB.out⟩

set_option maxHeartbeats 1000000 in
theorem count_any (v : Value) (l : List Mt) (k : ByteArray) (w : World) (hr : MRow w v l) :
    Calls Tryz.prog 85 #[v, .string k] w fun e w' => e = .returned (.int .i64 (cntP l k.data.toList)) ∧ Below w.heap.size w w' := by
  obtain ⟨K, hK⟩ : ∃ K, k.data.toList = K := ⟨_, rfl⟩
  have hk : k = ⟨K.toArray⟩ := by rw [← hK]
  rw [hK, hk]
  obtain ⟨x, c, rfl, hc1, hc2, -, -⟩ := id hr
  unfold maxLen at hc2
  have HR := Lib.hid hr
  clear hr hK hk
  go_enter Tryz.func85, Tryz.ntmps85
  go_wp2_with fail
  go_loopw [5, 10] (fun vn vi wr => ∃ i n : Nat, vi = .int .i64 i ∧ vn = .int .i64 n ∧ i ≤ l.length ∧ n ≤ i ∧ Hid (n = cntP (l.take i) K) ∧ Hid (Below w.heap.size w wr)) (fun _ vi _ => l.length - (intOf vi).toNat)
  case atStart => exact ⟨0, 0, rfl, rfl, Nat.zero_le _, Nat.le_refl _, rfl, Below.refl _ _⟩
  case round =>
    obtain ⟨i, n, rfl, rfl, hi, hni, hcn, hbw⟩ := hrel
    by_cases hli : i < l.length
    · obtain ⟨b, off, rfl, q1, q2⟩ := (HR.out.below hbw.out).at2 i hli rfl
      obtain ⟨mk, mv, hm⟩ : ∃ mk mv, l[i] = (mk, mv) := ⟨_, _, rfl⟩
      have HS := Lib.hid (cntP_take l K i hli)
      rw [hm] at q1 q2 HS
      simp only at q1 q2
      have hd : decide ((i : Int) < (l.length : Int)) = true := by simp; omega
      have i1 : (i : Int) < (l.length : Int) := by omega
      have hszr : w.heap.size ≤ wr.heap.size := hbw.out.size
      have HBA := Lib.hid (hbw.out.alloc hszr (.cells #[.string ⟨mk.toArray⟩, .string ⟨mv.toArray⟩] 53))
      have HQB := Lib.hid (Blk.new wr 53 #[.string ⟨mk.toArray⟩, .string ⟨mv.toArray⟩])
      clear hm hbw
      go_upto_region 5 with fail
      clear q1 q2
      generalize wr.alloc (.cells #[.string ⟨mk.toArray⟩, .string ⟨mv.toArray⟩] 53) = wb at *
      generalize wr.heap.size = KB at *
      have q1 : wb.cell? ⟨KB, 0, none⟩ = some (.string ⟨mk.toArray⟩) := HQB.out.cell 0
      cases he : (mk == K) with
      | true =>
        go_wp2_with fail
        go_roundw
        case rel => exact ⟨i + 1, n + 1, by go_num, by go_num, by omega, by omega, by show _ = _; rw [HS.out, if_pos he, ← hcn.out], HBA⟩
        case measure => simp [intOf]; omega
      | false =>
        go_wp2_with fail
        go_roundw
        case rel => exact ⟨i + 1, n, by go_num, rfl, by omega, by omega, by show _ = _; rw [HS.out, if_neg (by simp only; rw [he]; decide), ← hcn.out]; rfl, HBA⟩
        case measure => simp [intOf]; omega
    · have hd : decide ((i : Int) < (l.length : Int)) = false := by simp; omega
      have HZ : Hid (n = cntP l K) := by show _ = _; have := hcn.out; rwa [List.take_of_length_le (by omega)] at this
      go_wp2_with fail
      go_ret
      exact ⟨by rw [← HZ.out]; rfl, hbw.out⟩

theorem Bld.keep {B b : Nat} {l : List UInt8} {w : World} (h : Bld B b l w) (o : Obj) : Bld B b l (w.alloc o) := by
  have hal := World.grownBy_alloc w o none
  have hb : ∀ {x}, w.heap[b]? = some x → b < w.heap.size := fun h2 => by
    rcases Nat.lt_or_ge b w.heap.size with h' | h'
    · exact h'
    · simp [Array.getElem?_eq_none h'] at h2
  rcases h with ⟨h1, v, h2, h3, h4⟩ | ⟨h1, v, h2, h3, h4⟩
  · exact Or.inl ⟨h1, v, (hal.block b (hb h2) (by simp)).trans h2, h3.alloc _, h4⟩
  · exact Or.inr ⟨h1, v, (hal.block b (hb h2) (by simp)).trans h2, h3.alloc _, h4⟩

set_option maxHeartbeats 2000000 in
theorem datas_any (v : Value) (l : List Mt) (k : ByteArray) (w : World) (hr : MRow w v l) (ht : totP l ≤ 1000000000) :
    Calls Tryz.prog 86 #[v, .string k] w fun e w' => e = .returned (.string ⟨(datP l k.data.toList).toArray⟩) ∧ Below w.heap.size w w' := by
  obtain ⟨K, hK⟩ : ∃ K, k.data.toList = K := ⟨_, rfl⟩
  have hk : k = ⟨K.toArray⟩ := by rw [← hK]
  rw [hK, hk]
  obtain ⟨x, c, rfl, hc1, hc2, -, -⟩ := id hr
  unfold maxLen at hc2
  have HR := Lib.hid hr
  clear hr hK hk
  have hbl0 : Hid (Bld w.heap.size w.heap.size [] (w.alloc (.cells #[.pointer none, .slice none 0 0] 110))) :=
    Or.inl ⟨Nat.le_refl _, .slice none 0 0, heap_alloc_new w _, World.ownsRow_nil _ _ _ _, by simp [Value.ownBlock]⟩
  have hbb0 := Lib.hid ((Below.refl w.heap.size w).alloc (Nat.le_refl _) (.cells #[.pointer none, .slice none 0 0] 110))
  obtain ⟨B, hB⟩ : ∃ B, B = w.heap.size := ⟨_, rfl⟩
  have HB := Lib.hid hB
  go_enter Tryz.func86, Tryz.ntmps86
  go_wp2_with fail
  generalize w.alloc (.cells #[.pointer none, .slice none 0 0] 110) = w0 at *
  rw [← hB] at hbl0 hbb0 ⊢
  clear hB
  go_loopw [10] (fun vi wr => ∃ i : Nat, vi = .int .i64 i ∧ i ≤ l.length ∧ Hid (Bld B B (datP (l.take i) K) wr) ∧ Hid (Below B w wr)) (fun vi _ => l.length - (intOf vi).toNat)
  case atStart => exact ⟨0, rfl, Nat.zero_le _, hbl0, hbb0⟩
  case round =>
    clear hbl0 hbb0
    obtain ⟨i, rfl, hi, hbld, hbw⟩ := hrel
    by_cases hli : i < l.length
    · obtain ⟨b, off, rfl, q1, q2⟩ := (HR.out.below (by rw [← HB.out]; exact hbw.out)).at2 i hli rfl
      have hvl := totP_get l i hli
      obtain ⟨mk, mv, hm⟩ : ∃ mk mv, l[i] = (mk, mv) := ⟨_, _, rfl⟩
      have HS := Lib.hid (datP_take l K i hli)
      rw [hm] at q1 q2 HS hvl
      simp only at q1 q2 hvl
      have hd : decide ((i : Int) < (l.length : Int)) = true := by simp; omega
      have i1 : (i : Int) < (l.length : Int) := by omega
      have hszr : B ≤ wr.heap.size := by have := hbw.out.size; have := HB.out; omega
      have HBA := Lib.hid (hbw.out.alloc hszr (.cells #[.string ⟨mk.toArray⟩, .string ⟨mv.toArray⟩] 53))
      have HBL := Lib.hid (hbld.out.keep (.cells #[.string ⟨mk.toArray⟩, .string ⟨mv.toArray⟩] 53))
      have HQB := Lib.hid (Blk.new wr 53 #[.string ⟨mk.toArray⟩, .string ⟨mv.toArray⟩])
      have hdl : (datP (l.take i) K).length ≤ 1000000000 := by have := datP_le (l.take i) K; have := totP_take l i; omega
      have hszb : B ≤ (wr.alloc (.cells #[.string ⟨mk.toArray⟩, .string ⟨mv.toArray⟩] 53)).heap.size := by simp; omega
      clear hm hbw hbld
      go_upto_region 5 with fail
      clear q1 q2
      generalize wr.alloc (.cells #[.string ⟨mk.toArray⟩, .string ⟨mv.toArray⟩] 53) = wb at *
      generalize wr.heap.size = KB at *
      have q1 : wb.cell? ⟨KB, 0, none⟩ = some (.string ⟨mk.toArray⟩) := HQB.out.cell 0
      have q2 : wb.cell? ⟨KB, 1, none⟩ = some (.string ⟨mv.toArray⟩) := HQB.out.cell 1
      cases he : (mk == K) with
      | true =>
        have hms : (⟨mv.toArray⟩ : ByteArray).size = mv.length := by simp [ByteArray.size]
        have HW := Lib.hid (writeString_any B B _ ⟨mv.toArray⟩ _ HBL.out (by omega) hszb)
        clear HBL hms hszb
        go_wp2_with fail
        refine HW.out.mono ?_
        rintro e w4 ⟨rfl, hb4, hbe4⟩
        have HB4 := Lib.hid (HBA.out.trans hbe4)
        have HL4 : Hid (Bld B B (datP (l.take (i + 1)) K) w4) := by
          show Bld _ _ _ _
          rw [HS.out, if_pos he]
          exact hb4
        clear hb4 hbe4 HW q1 q2
        go_wp2_with fail
        go_roundw
        case rel => exact ⟨i + 1, by go_num, by omega, HL4, HB4⟩
        case measure => simp [intOf]; omega
      | false =>
        have HL4 : Hid (Bld B B (datP (l.take (i + 1)) K) wb) := by
          show Bld _ _ _ _
          rw [HS.out, if_neg (by simp only; rw [he]; decide), List.append_nil]
          exact HBL.out
        go_wp2_with fail
        go_roundw
        case rel => exact ⟨i + 1, by go_num, by omega, HL4, HBA⟩
        case measure => simp [intOf]; omega
    · have hd : decide ((i : Int) < (l.length : Int)) = false := by simp; omega
      have hall : l.take i = l := List.take_of_length_le (by omega)
      rw [hall] at hbld
      clear hall
      have hszr : B ≤ wr.heap.size := by have := hbw.out.size; have := HB.out; omega
      have HW := Lib.hid (bldString_any B B _ wr hbld.out hszr)
      clear hbld
      go_wp2_with fail
      refine HW.out.mono ?_
      rintro e w4 ⟨rfl, hbe4⟩
      have HB4 := Lib.hid (hbw.out.trans hbe4)
      clear hbe4
      go_wp2_with fail
      go_ret
      exact ⟨rfl, by rw [← HB.out]; exact HB4.out⟩

set_option maxHeartbeats 1000000 in
theorem gwithin_any (s : ByteArray) (most lo : Nat) (w : World) (hs : s.size ≤ maxLen) (_hm : most ≤ 1000) (_hlo : lo ≤ 126) :
    Calls Tryz.prog 91 #[.string s, .int .i64 most, .int .u8 lo] w fun e w' => e = .returned (.bool (okTxt most lo s.data.toList)) ∧ w = w' := by
  unfold maxLen at hs
  have hlen : s.data.toList.length = s.size := by simp
  have HL := Lib.hid hlen
  clear hlen
  go_enter Tryz.func91, Tryz.ntmps91
  go_wp2_with fail
  go_loop [10] (fun vi => ∃ i : Nat, vi = .int .i64 i ∧ i ≤ s.size ∧ Hid ((s.data.toList.take i).all (okC lo) = true)) (fun vi => s.size - (intOf vi).toNat)
  case atStart => exact ⟨0, rfl, Nat.zero_le _, rfl⟩
  case round =>
    obtain ⟨i, rfl, hi, ha⟩ := hrel
    by_cases hlt : i < s.size
    · have hcl : decide ((i : Int) < (s.size : Int)) = true := by simp; omega
      have HS := Lib.hid (take_snocB s i hlt)
      by_cases hb1 : (s[i]).toNat < lo
      · have HB : Hid (s.data.toList.all (okC lo) = false) := all_bad _ s i hlt (by simp [okC]; omega)
        have e1 : decide (((s[i]).toNat : Int) < (lo : Int)) = true := by simp; omega
        go_wp2_with fail
        go_ret
        exact ⟨ret_bool (okTxt_all HB.out).symm, rfl⟩
      have e1 : decide (((s[i]).toNat : Int) < (lo : Int)) = false := by simp; omega
      by_cases hb2 : 126 < (s[i]).toNat
      · have HB : Hid (s.data.toList.all (okC lo) = false) := all_bad _ s i hlt (by simp [okC]; omega)
        have e2 : decide ((126 : Int) < ((s[i]).toNat : Int)) = true := by simp; omega
        go_wp2_with fail
        go_ret
        exact ⟨ret_bool (okTxt_all HB.out).symm, rfl⟩
      · have e2 : decide ((126 : Int) < ((s[i]).toNat : Int)) = false := by simp; omega
        have HO : Hid (okC lo s[i] = true) := by show _ = _; simp [okC]; omega
        go_wp2_with fail
        go_round
        case rel => exact ⟨i + 1, by go_num, by omega, by show _ = _; rw [HS.out, List.all_append, ha.out]; simp [HO.out]⟩
        case measure => simp [intOf]; omega
    · have hcl : decide ((i : Int) < (s.size : Int)) = false := by simp; omega
      have ha2 : Hid (s.data.toList.all (okC lo) = true) := by have := ha.out; rwa [List.take_of_length_le (by rw [HL.out]; omega)] at this
      by_cases h1 : 1 ≤ s.size
      · have d1 : decide ((1 : Int) ≤ (s.size : Int)) = true := by simp; omega
        by_cases h2 : s.size ≤ most
        · have d2 : decide ((s.size : Int) ≤ (most : Int)) = true := by simp; omega
          go_wp2_with fail
          go_ret
          exact ⟨ret_bool (by unfold okTxt; rw [ha2.out, HL.out, decide_eq_true h1, decide_eq_true h2]; rfl), rfl⟩
        · have d2 : decide ((s.size : Int) ≤ (most : Int)) = false := by simp; omega
          go_wp2_with fail
          go_ret
          exact ⟨ret_bool (by unfold okTxt; rw [HL.out, decide_eq_false h2]; simp), rfl⟩
      · have d1 : decide ((1 : Int) ≤ (s.size : Int)) = false := by simp; omega
        go_wp2_with fail
        go_ret
        exact ⟨ret_bool (by unfold okTxt; rw [HL.out, decide_eq_false h1]; rfl), rfl⟩
end Go.Proofs.YthbejefodelpkaaGreat
