/-
  The law InflateSums: its walk.
-/
import Derived.Test.YtkbelkdephfhpaaK12
namespace Go.Proofs.Ytkbelkdephfhpaa
open Go.RowKit

set_option maxRecDepth 100000 in
set_option maxHeartbeats 8000000 in
theorem lawSums (s : ByteArray) (at' : Int) (c : UInt8) (w : World) (hs0 : s.size ≤ 1000000000000000) (_ : (Lit.int IntKind.i64 at').wf = true) :
    Calls Try.prog 8 #[.string s, .int .i64 at', .int .u8 (c.toNat : Int)] w fun e w' => e = .returned (.bool true) ∧ Below w.heap.size w w' := by
  by_cases c1 : 65535 < s.size
  · have d1 : decide ((65535 : Int) < (s.size : Int)) = true := by simp; omega
    go_enter Try.func8, Try.ntmps8
    go_wp2_with fail
    refine (awake_any _).mono ?_
    rintro e w1 ⟨rfl, hb1⟩
    go_wp2_with fail
    go_ret
    exact ⟨rfl, hb1⟩
  have d1 : decide ((65535 : Int) < (s.size : Int)) = false := by simp; omega
  have hmx : s.size ≤ maxLen := by unfold maxLen; omega
  have hA := Lib.hid (fun w => adler_any s w hmx)
  have hB := Lib.hid (fun w => block16_any s true w (by omega))
  have hx := adler_lt s.data.toList
  have hZ := Lib.hid (fun rest p q r t => zli_four s.data.toList rest p q r t (by rw [ba_size]; omega))
  have hlen := blockP_length s.data.toList true
  rw [ba_size] at hlen
  generalize adler s.data.toList = x at *
  obtain ⟨X, hX⟩ : ∃ X, (⟨(blockP s.data.toList true).toArray⟩ : ByteArray) = X := ⟨_, rfl⟩
  have lX : X.data.toList = blockP s.data.toList true := by rw [← hX]
  rw [hX] at hB
  rw [← lX] at hZ
  have sX := ba_size X
  rw [lX, hlen] at sX
  have bX : X.size ≤ 65540 := by omega
  have v0 : IntKind.u8.wrap ((x : Int) / 16777216) = ((UInt8.ofNat (x / 16777216)).toNat : Int) := by rw [IntKind.wrap_u8]; simp
  have v1 : IntKind.u8.wrap ((x : Int) / 65536) = ((UInt8.ofNat (x / 65536)).toNat : Int) := by rw [IntKind.wrap_u8]; simp
  have v2 : IntKind.u8.wrap ((x : Int) / 256) = ((UInt8.ofNat (x / 256)).toNat : Int) := by rw [IntKind.wrap_u8]; simp
  have v3 : IntKind.u8.wrap (x : Int) = ((UInt8.ofNat x).toNat : Int) := by rw [IntKind.wrap_u8]; simp
  clear hX lX sX hlen
  go_enter Try.func8, Try.ntmps8
  go_wp2_with fail
  refine (hA.out _).mono ?_
  rintro e w1 ⟨rfl, rfl⟩
  go_wp2_with fail
  refine (hB.out _).mono ?_
  rintro e w1 ⟨rfl, hb1⟩
  clear hA hB
  go_wp2_with fail
  have hq0 : (x : Int) / 16777216 % 256 = ((UInt8.ofNat (x / 16777216)).toNat : Int) := by simp
  have hq1 : (x : Int) / 65536 % 256 = ((UInt8.ofNat (x / 65536)).toNat : Int) := by simp
  have hq2 : (x : Int) / 256 % 256 = ((UInt8.ofNat (x / 256)).toNat : Int) := by simp
  have hq3 : (x : Int) % 256 = ((UInt8.ofNat x).toNat : Int) := by simp
  rw [hq0, hq1, hq2, hq3]
  have hnum : num4 (UInt8.ofNat (x / 16777216)) (UInt8.ofNat (x / 65536)) (UInt8.ofNat (x / 256)) (UInt8.ofNat x) = x := by
    unfold num4
    simp
    omega
  generalize UInt8.ofNat (x / 16777216) = p at *
  generalize UInt8.ofNat (x / 65536) = q at *
  generalize UInt8.ofNat (x / 256) = r at *
  generalize UInt8.ofNat x = t at *
  clear hq0 hq1 hq2 hq3 v0 v1 v2 v3
  have hB2 := Blk.new w1 5 #[Value.int IntKind.u8 (p.toNat : Int), Value.int IntKind.u8 (q.toNat : Int), Value.int IntKind.u8 (r.toNat : Int), Value.int IntKind.u8 (t.toNat : Int)]
  have hb2 : Below w.heap.size w (w1.alloc (Obj.cells #[Value.int IntKind.u8 (p.toNat : Int), Value.int IntKind.u8 (q.toNat : Int), Value.int IntKind.u8 (r.toNat : Int), Value.int IntKind.u8 (t.toNat : Int)] 5)) := hb1.alloc hb1.size _
  have hle := hb1.size
  generalize hw2 : w1.alloc (Obj.cells #[Value.int IntKind.u8 (p.toNat : Int), Value.int IntKind.u8 (q.toNat : Int), Value.int IntKind.u8 (r.toNat : Int), Value.int IntKind.u8 (t.toNat : Int)] 5) = w2 at hB2 hb2 ⊢
  generalize w1.heap.size = g at *
  clear hw2 hb1
  obtain ⟨Y, hY⟩ : ∃ Y, (⟨#[120, 1]⟩ : ByteArray) ++ X = Y := ⟨_, rfl⟩
  have lY : Y.data.toList = [120, 1] ++ X.data.toList := by rw [← hY, ByteArray.data_append]; simp
  rw [← lY] at hZ
  have bY : Y.size ≤ 65542 := by rw [← hY, ByteArray.size_append]; show 2 + X.size ≤ _; omega
  rw [hY]
  clear hY lY bX
  have call : ∀ (a b d e : UInt8) (rest : List UInt8) (R : Except Nat (List UInt8)) (w : World), rest.length ≤ 1 → (if num4 a b d e ≠ x then Except.error 7 else if rest = [] then Except.ok s.data.toList else Except.error 6) = R →
      Calls Try.prog 12 #[.string (Y ++ ⟨#[a, b, d, e]⟩ ++ ⟨rest.toArray⟩), .int .i64 1048576] w fun e w' => ZlOk R e ∧ Below w.heap.size w w' := by
    intro a b d e rest R w hr hR
    refine zli_call _ 1048576 R w ?_ ?_
    · rw [ByteArray.size_append, ByteArray.size_append]
      show Y.size + 4 + rest.toArray.size ≤ _
      simp
      omega
    · have : (Y ++ ⟨#[a, b, d, e]⟩ ++ ⟨rest.toArray⟩).data.toList = Y.data.toList ++ [a, b, d, e] ++ rest := by
        rw [ByteArray.data_append, ByteArray.data_append]; simp
      rw [this, ← hR]
      exact hZ.out rest a b d e
  have HC := Lib.hid call
  clear call hZ
  have cv := conv4x p q r t w2 g (hB2.cell 0) (hB2.cell 1) (hB2.cell 2) (hB2.cell 3)
  rw [cv]
  have bY4 : (Y ++ ⟨#[p, q, r, t]⟩).size ≤ 65546 := by rw [ByteArray.size_append]; show Y.size + 4 ≤ _; omega
  go_wp2_with fail
  have h1 := HC.out p q r t [] _ w2 (by simp) (by rw [if_neg (by simpa using hnum), if_pos rfl])
  have e1 : Y ++ (⟨#[p, q, r, t]⟩ : ByteArray) ++ ⟨([] : List UInt8).toArray⟩ = Y ++ ⟨#[p, q, r, t]⟩ := by
    apply ByteArray.ext; simp [ByteArray.data_append]
  rw [e1] at h1
  refine h1.mono ?_
  rintro e w3 ⟨rfl, hb3⟩
  have hB3 : Blk w3 g 5 _ := (hb3.block g hB2.lt).trans hB2
  have hbb := bthen hb2 hb3
  clear hB2 hb2 hb3 h1 e1 cv
  have es : (⟨s.data.toList.toArray⟩ : ByteArray) = s := by apply ByteArray.ext; simp
  rw [es]
  clear es
  have cv := conv4x p q r t w3 g (hB3.cell 0) (hB3.cell 1) (hB3.cell 2) (hB3.cell 3)
  go_wp2_with fail
  try rw [cv]
  go_wp2_with fail
  have hc1 := Blk.new w3 5 #[Value.int IntKind.u8 (c.toNat : Int)]
  have cv1 := conv1x c _ w3.heap.size (hc1.cell 0)
  rw [cv1]
  have hB4 := hB3.alloc (.cells #[Value.int IntKind.u8 (c.toNat : Int)] 5)
  have hb4 : Below w.heap.size w (w3.alloc (.cells #[Value.int IntKind.u8 (c.toNat : Int)] 5)) := hbb.alloc hbb.size _
  generalize w3.alloc (.cells #[Value.int IntKind.u8 (c.toNat : Int)] 5) = w4 at hB4 hb4 ⊢
  clear hc1 cv1 cv hB3 hbb
  generalize w3.heap.size = g1
  go_wp2_with fail
  have h1 := HC.out p q r t [c] _ w4 (by simp) (by rw [if_neg (by simpa using hnum), if_neg (by simp)])
  refine h1.mono ?_
  rintro e w5 ⟨rfl, hb5⟩
  have hB5 : Blk w5 g 5 _ := (hb5.block g hB4.lt).trans hB4
  have hbb := bthen hb4 hb5
  clear hB4 hb4 hb5 h1
  go_wp2_with fail
  refine (awake_any _).mono ?_
  rintro e w6 ⟨rfl, hb6⟩
  have hB6 : Blk w6 g 5 _ := (hb6.block g hB5.lt).trans hB5
  have hbb6 := bthen hbb hb6
  clear hB5 hbb hb6
  by_cases a0 : at' < 0
  · have g0 : decide (at' < 0) = true := by simp; omega
    go_wp2_with fail
    go_ret
    exact ⟨rfl, hbb6⟩
  have g0 : decide (at' < 0) = false := by simp; omega
  by_cases a1 : 3 < at'
  · have g1 : decide (3 < at') = true := by simp; omega
    go_wp2_with fail
    go_ret
    exact ⟨rfl, hbb6⟩
  have g1' : decide (3 < at') = false := by simp; omega
  have hat : at' = 0 ∨ at' = 1 ∨ at' = 2 ∨ at' = 3 := by omega
  have z0 := hB6.cell 0
  have z1 := hB6.cell 1
  have z2 := hB6.cell 2
  have z3 := hB6.cell 3
  have y0 := hB6.frozen 0
  have y1 := hB6.frozen 1
  have y2 := hB6.frozen 2
  have y3 := hB6.frozen 3
  simp at z0 z1 z2 z3
  clear g0 a0 a1 g1'
  rcases hat with rfl | rfl | rfl | rfl
  · by_cases hne : p = c
    · have hd : ((p.toNat : Int) == (c.toNat : Int)) = true := by simp; exact congrArg (fun z : UInt8 => (z.toNat : Int)) hne
      go_wp2_with fail
      go_ret
      exact ⟨rfl, hbb6⟩
    have hd : ((p.toNat : Int) == (c.toNat : Int)) = false := by simp; exact fun h => hne (UInt8.toNat_inj.mp (Int.ofNat.inj h))
    go_wp2_with fail
    have hB7 := hB6.put 0 (Value.int IntKind.u8 (c.toNat : Int))
    have hb7 : Below w.heap.size w (w6.setCell ⟨g, 0, none⟩ (Value.int IntKind.u8 (c.toNat : Int))) := hbb6.setCell (p := ⟨g, 0, none⟩) hle _
    generalize w6.setCell ⟨g, 0, none⟩ (Value.int IntKind.u8 (c.toNat : Int)) = w7 at hB7 hb7 ⊢
    rw [conv4x c q r t w7 g (hB7.cell 0) (hB7.cell 1) (hB7.cell 2) (hB7.cell 3)]
    clear z0 z1 z2 z3 y0 y1 y2 y3 hd hB6 hbb6 bY4
    have bY5 : (Y ++ ⟨#[c, q, r, t]⟩).size ≤ 65546 := by rw [ByteArray.size_append]; show Y.size + 4 ≤ _; omega
    go_wp2_with fail
    have hnn : num4 c q r t ≠ x := by
      intro h
      apply hne
      apply UInt8.toNat_inj.mp
      rw [← hnum] at h
      have := p.toNat_lt
      have := q.toNat_lt
      have := r.toNat_lt
      have := t.toNat_lt
      have := c.toNat_lt
      unfold num4 at h
      omega
    have h1 := HC.out c q r t [] _ w7 (by simp) (by rw [if_pos hnn])
    have e1 : Y ++ (⟨#[c, q, r, t]⟩ : ByteArray) ++ ⟨([] : List UInt8).toArray⟩ = Y ++ ⟨#[c, q, r, t]⟩ := by
      apply ByteArray.ext; simp [ByteArray.data_append]
    rw [e1] at h1
    refine h1.mono ?_
    rintro e w8 ⟨rfl, hb8⟩
    have hbb := bthen hb7 hb8
    clear h1 e1 hb7 hb8 hB7
    go_wp2_with fail
    go_ret
    exact ⟨rfl, hbb⟩
  · by_cases hne : q = c
    · have hd : ((q.toNat : Int) == (c.toNat : Int)) = true := by simp; exact congrArg (fun z : UInt8 => (z.toNat : Int)) hne
      go_wp2_with fail
      go_ret
      exact ⟨rfl, hbb6⟩
    have hd : ((q.toNat : Int) == (c.toNat : Int)) = false := by simp; exact fun h => hne (UInt8.toNat_inj.mp (Int.ofNat.inj h))
    go_wp2_with fail
    have hB7 := hB6.put 1 (Value.int IntKind.u8 (c.toNat : Int))
    have hb7 : Below w.heap.size w (w6.setCell ⟨g, 1, none⟩ (Value.int IntKind.u8 (c.toNat : Int))) := hbb6.setCell (p := ⟨g, 1, none⟩) hle _
    generalize w6.setCell ⟨g, 1, none⟩ (Value.int IntKind.u8 (c.toNat : Int)) = w7 at hB7 hb7 ⊢
    rw [conv4x p c r t w7 g (hB7.cell 0) (hB7.cell 1) (hB7.cell 2) (hB7.cell 3)]
    clear z0 z1 z2 z3 y0 y1 y2 y3 hd hB6 hbb6 bY4
    have bY5 : (Y ++ ⟨#[p, c, r, t]⟩).size ≤ 65546 := by rw [ByteArray.size_append]; show Y.size + 4 ≤ _; omega
    go_wp2_with fail
    have hnn : num4 p c r t ≠ x := by
      intro h
      apply hne
      apply UInt8.toNat_inj.mp
      rw [← hnum] at h
      have := p.toNat_lt
      have := q.toNat_lt
      have := r.toNat_lt
      have := t.toNat_lt
      have := c.toNat_lt
      unfold num4 at h
      omega
    have h1 := HC.out p c r t [] _ w7 (by simp) (by rw [if_pos hnn])
    have e1 : Y ++ (⟨#[p, c, r, t]⟩ : ByteArray) ++ ⟨([] : List UInt8).toArray⟩ = Y ++ ⟨#[p, c, r, t]⟩ := by
      apply ByteArray.ext; simp [ByteArray.data_append]
    rw [e1] at h1
    refine h1.mono ?_
    rintro e w8 ⟨rfl, hb8⟩
    have hbb := bthen hb7 hb8
    clear h1 e1 hb7 hb8 hB7
    go_wp2_with fail
    go_ret
    exact ⟨rfl, hbb⟩
  · by_cases hne : r = c
    · have hd : ((r.toNat : Int) == (c.toNat : Int)) = true := by simp; exact congrArg (fun z : UInt8 => (z.toNat : Int)) hne
      go_wp2_with fail
      go_ret
      exact ⟨rfl, hbb6⟩
    have hd : ((r.toNat : Int) == (c.toNat : Int)) = false := by simp; exact fun h => hne (UInt8.toNat_inj.mp (Int.ofNat.inj h))
    go_wp2_with fail
    have hB7 := hB6.put 2 (Value.int IntKind.u8 (c.toNat : Int))
    have hb7 : Below w.heap.size w (w6.setCell ⟨g, 2, none⟩ (Value.int IntKind.u8 (c.toNat : Int))) := hbb6.setCell (p := ⟨g, 2, none⟩) hle _
    generalize w6.setCell ⟨g, 2, none⟩ (Value.int IntKind.u8 (c.toNat : Int)) = w7 at hB7 hb7 ⊢
    rw [conv4x p q c t w7 g (hB7.cell 0) (hB7.cell 1) (hB7.cell 2) (hB7.cell 3)]
    clear z0 z1 z2 z3 y0 y1 y2 y3 hd hB6 hbb6 bY4
    have bY5 : (Y ++ ⟨#[p, q, c, t]⟩).size ≤ 65546 := by rw [ByteArray.size_append]; show Y.size + 4 ≤ _; omega
    go_wp2_with fail
    have hnn : num4 p q c t ≠ x := by
      intro h
      apply hne
      apply UInt8.toNat_inj.mp
      rw [← hnum] at h
      have := p.toNat_lt
      have := q.toNat_lt
      have := r.toNat_lt
      have := t.toNat_lt
      have := c.toNat_lt
      unfold num4 at h
      omega
    have h1 := HC.out p q c t [] _ w7 (by simp) (by rw [if_pos hnn])
    have e1 : Y ++ (⟨#[p, q, c, t]⟩ : ByteArray) ++ ⟨([] : List UInt8).toArray⟩ = Y ++ ⟨#[p, q, c, t]⟩ := by
      apply ByteArray.ext; simp [ByteArray.data_append]
    rw [e1] at h1
    refine h1.mono ?_
    rintro e w8 ⟨rfl, hb8⟩
    have hbb := bthen hb7 hb8
    clear h1 e1 hb7 hb8 hB7
    go_wp2_with fail
    go_ret
    exact ⟨rfl, hbb⟩
  · by_cases hne : t = c
    · have hd : ((t.toNat : Int) == (c.toNat : Int)) = true := by simp; exact congrArg (fun z : UInt8 => (z.toNat : Int)) hne
      go_wp2_with fail
      go_ret
      exact ⟨rfl, hbb6⟩
    have hd : ((t.toNat : Int) == (c.toNat : Int)) = false := by simp; exact fun h => hne (UInt8.toNat_inj.mp (Int.ofNat.inj h))
    go_wp2_with fail
    have hB7 := hB6.put 3 (Value.int IntKind.u8 (c.toNat : Int))
    have hb7 : Below w.heap.size w (w6.setCell ⟨g, 3, none⟩ (Value.int IntKind.u8 (c.toNat : Int))) := hbb6.setCell (p := ⟨g, 3, none⟩) hle _
    generalize w6.setCell ⟨g, 3, none⟩ (Value.int IntKind.u8 (c.toNat : Int)) = w7 at hB7 hb7 ⊢
    rw [conv4x p q r c w7 g (hB7.cell 0) (hB7.cell 1) (hB7.cell 2) (hB7.cell 3)]
    clear z0 z1 z2 z3 y0 y1 y2 y3 hd hB6 hbb6 bY4
    have bY5 : (Y ++ ⟨#[p, q, r, c]⟩).size ≤ 65546 := by rw [ByteArray.size_append]; show Y.size + 4 ≤ _; omega
    go_wp2_with fail
    have hnn : num4 p q r c ≠ x := by
      intro h
      apply hne
      apply UInt8.toNat_inj.mp
      rw [← hnum] at h
      have := p.toNat_lt
      have := q.toNat_lt
      have := r.toNat_lt
      have := t.toNat_lt
      have := c.toNat_lt
      unfold num4 at h
      omega
    have h1 := HC.out p q r c [] _ w7 (by simp) (by rw [if_pos hnn])
    have e1 : Y ++ (⟨#[p, q, r, c]⟩ : ByteArray) ++ ⟨([] : List UInt8).toArray⟩ = Y ++ ⟨#[p, q, r, c]⟩ := by
      apply ByteArray.ext; simp [ByteArray.data_append]
    rw [e1] at h1
    refine h1.mono ?_
    rintro e w8 ⟨rfl, hb8⟩
    have hbb := bthen hb7 hb8
    clear h1 e1 hb7 hb8 hB7
    go_wp2_with fail
    go_ret
    exact ⟨rfl, hbb⟩

theorem lawSumsA (s : ByteArray) (at' c : Int) (w : World) (hs0 : s.size ≤ 1000000000000000) (h1 : (Lit.int IntKind.i64 at').wf = true) (h2 : (Lit.int IntKind.u8 c).wf = true) :
    Calls Try.prog 8 #[.string s, .int .i64 at', .int .u8 c] w fun e w' => e = .returned (.bool true) ∧ Below w.heap.size w w' := by
  have h3 : 0 ≤ c ∧ c < 256 := by
    simp [Lit.wf] at h2
    have a1 : IntKind.u8.min = 0 := rfl
    have a2 : IntKind.u8.max = 255 := rfl
    omega
  have h4 : c = ((UInt8.ofNat c.toNat).toNat : Int) := by simp; omega
  rw [h4]
  exact lawSums s at' _ w hs0 h1
end Go.Proofs.Ytkbelkdephfhpaa
