/-
  Walks: the entry of a comment, in the program.
-/
import Derived.Test.YtakkdgcmeeilbaaDoorP4
import Derived.Test.YtakkdgcmeeilbaaDoorM4
import Derived.Deep.RegionLaw
import Derived.Deep.AppendLies
namespace Go.Proofs.YtakkdgcmeeilbaaDoor
open Go.RowKit

theorem isKey1_any (a b k : List UInt8) (kb : Nat) (w : World) (hk : w.cell? ⟨kb, 0, none⟩ = some (.string ⟨k.toArray⟩)) :
    Calls Tryd.prog 68 #[.agg #[.string ⟨a.toArray⟩, .string ⟨b.toArray⟩], .pointer (some ⟨kb, 0, none⟩)] w fun e w' => e = .returned (.bool (a == k)) ∧ Below w.heap.size w w' := by
  have hlt : kb < w.heap.size := World.block_lt_of_cell? w _ hk
  go_enter Tryd.func68, Tryd.ntmps68
  go_wp2_with fail
  have hbl := Blk.new w 44 #[.string ⟨a.toArray⟩, .string ⟨b.toArray⟩]
  have hk2 : (w.alloc (.cells #[.string ⟨a.toArray⟩, .string ⟨b.toArray⟩] 44)).cell? ⟨kb, 0, none⟩ = some (.string ⟨k.toArray⟩) :=
    (Below.cell ((Below.refl w.heap.size w).alloc (Nat.le_refl _) _) (p := ⟨kb, 0, none⟩) hlt).trans hk
  have hbz := (Below.refl w.heap.size w).alloc (Nat.le_refl _) (.cells #[.string ⟨a.toArray⟩, .string ⟨b.toArray⟩] 44)
  generalize w.alloc (.cells #[.string ⟨a.toArray⟩, .string ⟨b.toArray⟩] 44) = wz at *
  have y0 : wz.cell? ⟨w.heap.size, 0, none⟩ = some (.string ⟨a.toArray⟩) := hbl.cell 0
  clear hbl hk hlt
  have HBZ := Lib.hid hbz
  clear hbz
  generalize w.heap.size = B at *
  go_ret
  exact ⟨rfl, HBZ.out⟩

def anyK (l : List Mt) (k : List UInt8) : Bool := l.any fun m => m.1 == k
theorem anyK_take (l : List Mt) (k : List UInt8) (i : Nat) (hi : i < l.length) (m : Mt) (hm : l[i] = m) : anyK (l.take (i + 1)) k = (anyK (l.take i) k || m.1 == k) := by
  unfold anyK
  rw [List.take_succ_eq_append_getElem hi, List.any_append, hm]
  simp
theorem anyK_hit (l : List Mt) (k : List UInt8) (i : Nat) (hi : i < l.length) (m : Mt) (hm : l[i] = m) (h : (m.1 == k) = true) : anyK l k = true := by
  unfold anyK
  rw [List.any_eq_true]
  exact ⟨m, hm ▸ List.getElem_mem hi, h⟩

set_option maxHeartbeats 1000000 in
set_option maxRecDepth 100000 in
theorem indexFunc_any (v : Value) (l : List Mt) (k : List UInt8) (kb : Nat) (w : World) (hr : MRow w v l) (hk : w.cell? ⟨kb, 0, none⟩ = some (.string ⟨k.toArray⟩)) (hl : l.length ≤ 1000) :
    Calls Tryd.prog 79 #[v, .func (.func 68) #[] #[.pointer (some ⟨kb, 0, none⟩)]] w fun e w' => (∃ n : Int, e = .returned (.int .i64 n) ∧ decide (0 ≤ n) = anyK l k) ∧ Below w.heap.size w w' := by
  have hlt : kb < w.heap.size := World.block_lt_of_cell? w _ hk
  obtain ⟨x, c, rfl, hc1, hc2, hc3, hcell⟩ := id hr
  unfold maxLen at hc2
  have HK := Lib.hid hk
  clear hk hc3
  go_enter Tryd.func79, Tryd.ntmps79
  go_wp2_with fail
  go_loopw [8] (fun vi wr => ∃ i : Nat, vi = .int .i64 i ∧ i ≤ l.length ∧ Hid (anyK (l.take i) k = false) ∧ Hid (Below w.heap.size w wr)) (fun vi _ => l.length - (intOf vi).toNat)
  case atStart => exact ⟨0, rfl, Nat.zero_le _, rfl, Below.refl _ _⟩
  case round =>
    obtain ⟨i, rfl, hi, hch, hbw⟩ := hrel
    by_cases hli : i < l.length
    · have hne : l ≠ [] := by rintro rfl; simp at hli
      have hrw : MRow wr (.slice x l.length c) l := hr.below hbw.out
      obtain ⟨x', c', hv, -, -, -, hcell'⟩ := hrw
      cases hv
      obtain ⟨b, off, rfl, hcl'⟩ := hcell' hne
      obtain ⟨q1, q2⟩ := hcl' i hli
      clear hcl' hcell' hcell hr
      obtain ⟨mk, mv, hm⟩ : ∃ mk mv, l[i] = (mk, mv) := ⟨_, _, rfl⟩
      rw [hm] at q1 q2
      simp only at q1 q2
      have hkw : wr.cell? ⟨kb, 0, none⟩ = some (.string ⟨k.toArray⟩) := (hbw.out.cell (p := ⟨kb, 0, none⟩) hlt).trans HK.out
      have HC := Lib.hid (isKey1_any mk mv k kb wr hkw)
      have HT := Lib.hid (anyK_take l k i hli _ hm)
      have HH := Lib.hid (anyK_hit l k i hli _ hm)
      have hd : decide ((i : Int) < (l.length : Int)) = true := by simp; omega
      have i1 : (i : Int) < (l.length : Int) := by omega
      clear hm hkw
      generalize hn : l.length = n at *
      have HN := Lib.hid hn
      clear hn
      go_wp2_with fail
      refine HC.out.mono ?_
      rintro e w1 ⟨rfl, hb1⟩
      have hbw1 := Lib.hid (hbw.out.trans (hb1.mono hbw.out.size))
      clear q1 q2 hb1
      cases he : (mk == k) with
      | true =>
        go_wp2_with fail
        go_ret
        exact ⟨⟨i, rfl, by rw [HH.out he]; simp⟩, hbw1.out⟩
      | false =>
        go_wp2_with fail
        go_roundw
        case rel => exact ⟨i + 1, by go_num, by omega, by show _ = _; rw [HT.out, hch.out]; simpa using he, hbw1⟩
        case measure => simp [intOf]; omega
    · have hd : decide ((i : Int) < (l.length : Int)) = false := by simp; omega
      have HZ : Hid (anyK l k = false) := by show _ = _; have := hch.out; rwa [List.take_of_length_le (by omega)] at this
      go_wp2_with fail
      go_ret
      exact ⟨⟨-1, rfl, by rw [HZ.out]; rfl⟩, hbw.out⟩

theorem containsFunc_any (v : Value) (l : List Mt) (k : List UInt8) (kb : Nat) (w : World) (hr : MRow w v l) (hk : w.cell? ⟨kb, 0, none⟩ = some (.string ⟨k.toArray⟩)) (hl : l.length ≤ 1000) :
    Calls Tryd.prog 67 #[v, .func (.func 68) #[] #[.pointer (some ⟨kb, 0, none⟩)]] w fun e w' => e = .returned (.bool (anyK l k)) ∧ Below w.heap.size w w' := by
  have H := Lib.hid (indexFunc_any v l k kb w hr hk hl)
  clear hr hk
  go_enter Tryd.func67, Tryd.ntmps67
  go_wp2_with fail
  refine H.out.mono ?_
  rintro e w1 ⟨⟨n, rfl, hn⟩, hb⟩
  have HB := Lib.hid hb
  have HN := Lib.hid hn
  clear hn hb
  go_wp2_with fail
  go_ret
  exact ⟨ret_bool HN.out, HB.out⟩

def cpV (p l : List UInt8) : Value := if begP p l then .tuple #[.string ⟨(l.drop p.length).toArray⟩, .bool true] else .tuple #[.string ⟨l.toArray⟩, .bool false]
set_option maxHeartbeats 1000000 in
theorem cutPrefix0_any (s p : ByteArray) (w : World) : Calls Tryd.prog 78 #[.string s, .string p] w fun e w' => e = .returned (cpV p.data.toList s.data.toList) ∧ w = w' := by
  have H := Lib.hid (fun w => hasPre0_any s p w)
  have HV : Hid (cpV p.data.toList s.data.toList = if begP p.data.toList s.data.toList then .tuple #[.string ⟨(s.data.toList.drop p.data.toList.length).toArray⟩, .bool true] else .tuple #[.string ⟨s.data.toList.toArray⟩, .bool false]) := rfl
  have HBP : Hid (begP p.data.toList s.data.toList = true → p.size ≤ s.size) := by
    intro h
    unfold begP at h
    simp at h
    exact h.1
  generalize begP p.data.toList s.data.toList = b at *
  cases b with
  | false =>
    go_enter Tryd.func78, Tryd.ntmps78
    go_wp2_with fail
    refine (H.out _).mono ?_
    rintro e w1 ⟨rfl, rfl⟩
    go_wp2_with fail
    refine bodyPost_ret (v := .tuple #[.string s, .bool false]) (by simp [results, Tryd.f78, go_sem]) rfl ⟨?_, rfl⟩
    rw [HV.out]; rfl
  | true =>
    have hle := HBP.out rfl
    have i1 : (p.size : Int) ≤ (s.size : Int) := by omega
    go_enter Tryd.func78, Tryd.ntmps78
    go_wp2_with fail
    refine (H.out _).mono ?_
    rintro e w1 ⟨rfl, rfl⟩
    go_wp2_with fail
    refine bodyPost_ret (v := .tuple #[.string (s.extract p.size s.size), .bool true]) (by simp [results, Tryd.f78, go_sem]) rfl ⟨?_, rfl⟩
    rw [HV.out, ba_of (s.extract p.size s.size) (s.data.toList.drop p.data.toList.length) (by rw [extract_list, List.take_of_length_le (by simp), ba_size])]
    rfl
theorem cutPrefix_any (s p : ByteArray) (w : World) : Calls Tryd.prog 65 #[.string s, .string p] w fun e w' => e = .returned (cpV p.data.toList s.data.toList) ∧ w = w' := by
  have H := Lib.hid (fun w => cutPrefix0_any s p w)
  obtain ⟨u, b, hV⟩ : ∃ u b, cpV p.data.toList s.data.toList = .tuple #[.string u, .bool b] := by
    unfold cpV; split <;> exact ⟨_, _, rfl⟩
  rw [hV] at H ⊢
  go_enter Tryd.func65, Tryd.ntmps65
  go_wp2_with fail
  refine (H.out _).mono ?_
  rintro e w1 ⟨rfl, rfl⟩
  go_wp2_with fail
  refine bodyPost_ret (v := .tuple #[.string u, .bool b]) (by simp [results, Tryd.f65, go_sem]) rfl ⟨rfl, rfl⟩
end Go.Proofs.YtakkdgcmeeilbaaDoor
