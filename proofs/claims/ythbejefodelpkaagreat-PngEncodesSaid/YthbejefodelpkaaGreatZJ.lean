/-
  Walks: the bytes of pixels, the weight of a line. (Printed by wip/gen_g9.py.)
  Plain: the filtered lines of an image. Walk: png.lines.
  Plain: the chunks of a joined file are the chunks, and the chunks of a file are joined to the file.
-/
import Derived.Test.YthbejefodelpkaaGreatZG7
import Derived.Test.YthbejefodelpkaaGreatZF
namespace Go.Proofs.YthbejefodelpkaaGreat
open Go.RowKit
set_option maxRecDepth 100000

/-- The bytes of a value. -/
def smB (d : Nat) (v : Int) : List UInt8 := if d = 16 then [UInt8.ofNat (v.toNat / 256), UInt8.ofNat (v.toNat % 256)] else [UInt8.ofNat (to8I v).toNat]
/-- The bytes of a pixel. -/
def pxB (d : Nat) (p : Px) : List UInt8 :=
  if d = 16 then smB 16 p.1 ++ smB 16 p.2.1 ++ smB 16 p.2.2.1 ++ smB 16 p.2.2.2
  else if to8I p.2.2.2 = 0 then [0, 0, 0, 0] else smB 8 p.1 ++ smB 8 p.2.1 ++ smB 8 p.2.2.1 ++ smB 8 p.2.2.2
theorem pxB_len (d : Nat) (p : Px) : (pxB d p).length ≤ 8 := by
  unfold pxB smB
  split
  · simp
  · split <;> simp
def pxAt (p : Px) (i : Nat) : Int := if i = 0 then p.1 else if i = 1 then p.2.1 else if i = 2 then p.2.2.1 else p.2.2.2
theorem pxC_at (p : Px) (i : Nat) (hi : i < 4) : (pxC p)[i]? = some (.int .i64 (pxAt p i)) := by
  match i, hi with
  | 0, _ => rfl
  | 1, _ => rfl
  | 2, _ => rfl
  | 3, _ => rfl

theorem idx4_0 (a b c q : Int) (w : World) : (Instr.index 104 (.agg #[.int .i64 a, .int .i64 b, .int .i64 c, .int .i64 q]) (.int .i64 0)).run Tryz.prog w = .ok (.int .i64 a) w := by kernel_rfl
theorem idx4_1 (a b c q : Int) (w : World) : (Instr.index 104 (.agg #[.int .i64 a, .int .i64 b, .int .i64 c, .int .i64 q]) (.int .i64 1)).run Tryz.prog w = .ok (.int .i64 b) w := by kernel_rfl
theorem idx4_2 (a b c q : Int) (w : World) : (Instr.index 104 (.agg #[.int .i64 a, .int .i64 b, .int .i64 c, .int .i64 q]) (.int .i64 2)).run Tryz.prog w = .ok (.int .i64 c) w := by kernel_rfl
theorem idx4_3 (a b c q : Int) (w : World) : (Instr.index 104 (.agg #[.int .i64 a, .int .i64 b, .int .i64 c, .int .i64 q]) (.int .i64 3)).run Tryz.prog w = .ok (.int .i64 q) w := by kernel_rfl
theorem idx4 (a b c q : Int) (i : Nat) (hi : i < 4) (w : World) : (Instr.index 104 (.agg #[.int .i64 a, .int .i64 b, .int .i64 c, .int .i64 q]) (.int .i64 (i : Int))).run Tryz.prog w = .ok (.int .i64 (pxAt (a, b, c, q) i)) w := by
  match i, hi with
  | 0, _ => exact idx4_0 a b c q w
  | 1, _ => exact idx4_1 a b c q w
  | 2, _ => exact idx4_2 a b c q w
  | 3, _ => exact idx4_3 a b c q w
theorem valP_at (p : Px) (h : valP p = true) (i : Nat) : ∃ n : Nat, pxAt p i = (n : Int) ∧ n ≤ 65535 := by
  unfold valP at h
  simp only [Bool.and_eq_true, beq_iff_eq] at h
  have k : ∀ x : Int, uI x = x → ∃ n : Nat, x = (n : Int) ∧ n ≤ 65535 := fun x hx => by
    have := uI_rng x
    rw [hx] at this
    exact ⟨x.toNat, by omega, by omega⟩
  unfold pxAt
  split
  · exact k _ h.1.1.1
  · split
    · exact k _ h.1.1.2
    · split
      · exact k _ h.1.2
      · exact k _ h.2
theorem two_cells (n : Nat) (h : n ≤ 65535) : [Value.int .u8 ((n : Int) / 256), Value.int .u8 ((n : Int) % 256)] = bcells [UInt8.ofNat (n / 256), UInt8.ofNat (n % 256)] := by
  simp only [bcells, List.map_cons, List.map_nil]
  rw [bcell_ofNat (n / 256) (by omega), bcell_ofNat (n % 256) (by omega)]; rfl
theorem one_cell (n : Nat) (h : n ≤ 255) : [Value.int .u8 (n : Int)] = bcells [UInt8.ofNat n] := by
  simp only [bcells, List.map_cons, List.map_nil]
  rw [bcell_ofNat n (by omega)]
theorem to8_nat (x : Int) : ∃ n : Nat, to8I x = (n : Int) ∧ n ≤ 255 := by
  have := to8I_rng x
  exact ⟨(to8I x).toNat, by omega, by omega⟩
theorem brow_put {w : World} {B k : Nat} {v : Value} {l : List UInt8} {t : TypeId} {cs : Array Value} (h : BRow w B 5 v l) (hb : Blk w k t cs) (ht : t ≠ 5) (i : Nat) (u : Value) : BRow (w.setCell ⟨k, i, none⟩ u) B 5 v l :=
  ((Fr.refl k [t] w).put hb (Nat.le_refl _) (by simp) i u).owns h (by simpa using fun e => ht e.symm)
/-- The bytes of the first values. -/
def vsB (d : Nat) (f : Nat → Int) (i : Nat) : List UInt8 := (List.range i).flatMap fun k => smB d (f k)
theorem vsB_succ (d : Nat) (f : Nat → Int) (i : Nat) : vsB d f (i + 1) = vsB d f i ++ smB d (f i) := by
  unfold vsB; rw [List.range_succ, List.flatMap_append]; simp
theorem vsB_len (d : Nat) (f : Nat → Int) (i : Nat) : (vsB d f i).length ≤ 2 * i := by
  induction i with
  | zero => simp [vsB]
  | succ i ih =>
    rw [vsB_succ, List.length_append]
    have : (smB d (f i)).length ≤ 2 := by unfold smB; split <;> simp
    omega


/-- The absolute value of a byte as a signed number. -/
def wB (b : UInt8) : Nat := if b.toNat < 128 then b.toNat else 256 - b.toNat
def weiP (l : List UInt8) : Nat := (l.map wB).sum
theorem wB_le (b : UInt8) : wB b ≤ 128 := by unfold wB; have := b.toNat_lt; split <;> omega
theorem wei_take (l : List UInt8) (i : Nat) (h : i < l.length) : weiP (l.take (i + 1)) = weiP (l.take i) + wB l[i] := by
  unfold weiP
  rw [List.take_succ_eq_append_getElem h, List.map_append, List.sum_append]; simp
theorem wei_le (l : List UInt8) : weiP l ≤ 128 * l.length := by
  induction l with
  | nil => simp [weiP]
  | cons b r ih => unfold weiP at *; rw [List.map_cons, List.sum_cons, List.length_cons]; have := wB_le b; omega

set_option maxHeartbeats 2000000 in
theorem weight_any (s : ByteArray) (w : World) (hs : s.size ≤ 1000000000000000) : Calls Tryz.prog 75 #[.string s] w fun e w' => e = .returned (.int .i64 (weiP s.data.toList : Nat)) ∧ w = w' := by
  have HSZ : Hid (s.data.toList.length = s.size) := by show _ = _; simp
  go_enter Tryz.func75, Tryz.ntmps75
  go_wp2_with fail
  go_loopw [3, 8] (fun vn vi wr => ∃ (i n : Nat), vn = .int .i64 n ∧ vi = .int .i64 i ∧ i ≤ s.size ∧ n ≤ 128 * i ∧ Hid (n = weiP (s.data.toList.take i)) ∧ Hid (w = wr)) (fun _ vi _ => s.size - (intOf vi).toNat)
  case atStart => exact ⟨0, 0, rfl, rfl, Nat.zero_le _, Nat.zero_le _, rfl, rfl⟩
  case round =>
    obtain ⟨i, n, rfl, rfl, hi, hn, hnw, hwr⟩ := hrel
    by_cases hlt : i < s.size
    · have hd : decide ((i : Int) < (s.size : Int)) = true := by simp; omega
      obtain ⟨b, hb⟩ : ∃ b, s[i] = b := ⟨_, rfl⟩
      have HNX : Hid (n + wB b = weiP (s.data.toList.take (i + 1))) := by
        show _ = _
        rw [wei_take _ _ (by rw [HSZ.out]; exact hlt), ← hnw.out, ← hb]; rfl
      have hbt := b.toNat_lt
      have hw8 := wB_le b
      obtain ⟨z, hz⟩ : ∃ z, n + wB b = z := ⟨_, rfl⟩
      rw [hz] at HNX
      have HZ := Lib.hid hz
      have hc1 : IntKind.i8.wrap (b.toNat : Int) = if b.toNat < 128 then (b.toNat : Int) else (b.toNat : Int) - 256 := by
        have key : ∀ n : Fin 256, IntKind.i8.wrap (n.val : Int) = if n.val < 128 then (n.val : Int) else (n.val : Int) - 256 := by decide +kernel
        exact key ⟨b.toNat, hbt⟩
      by_cases h1 : b.toNat < 128
      · rw [if_pos h1] at hc1
        have hwb : wB b = b.toNat := by unfold wB; rw [if_pos h1]
        have hw2 : wrap64 (b.toNat : Int) = (b.toNat : Int) := by unfold wrap64; omega
        have hw3 : wrap64 (-(b.toNat : Int)) = -(b.toNat : Int) := by unfold wrap64; omega
        have hw4 : max (b.toNat : Int) (-(b.toNat : Int)) = (b.toNat : Int) := by omega
        have hw5 : wrap64 ((n : Int) + (b.toNat : Int)) = (z : Int) := by unfold wrap64; omega
        have HWB := Lib.hid hwb
        clear hnw hwb hz
        go_wp2_with fail
        go_roundw
        case rel => exact ⟨i + 1, z, by have := HZ.out; have := HWB.out; congr 1; omega, by go_num, by omega, by have := HZ.out; omega, HNX, hwr⟩
        case measure => simp [intOf]; omega
      · rw [if_neg h1] at hc1
        have hwb : wB b = 256 - b.toNat := by unfold wB; rw [if_neg h1]
        have hw2 : wrap64 ((b.toNat : Int) - 256) = (b.toNat : Int) - 256 := by unfold wrap64; omega
        have hw3 : wrap64 (-((b.toNat : Int) - 256)) = 256 - (b.toNat : Int) := by unfold wrap64; omega
        have hw4 : max ((b.toNat : Int) - 256) (256 - (b.toNat : Int)) = 256 - (b.toNat : Int) := by omega
        have hw5 : wrap64 ((n : Int) + (256 - (b.toNat : Int))) = (z : Int) := by unfold wrap64; omega
        have HWB := Lib.hid hwb
        clear hnw hwb hz
        go_wp2_with fail
        go_roundw
        case rel => exact ⟨i + 1, z, by have := HZ.out; have := HWB.out; congr 1; omega, by go_num, by omega, by have := HZ.out; omega, HNX, hwr⟩
        case measure => simp [intOf]; omega
    · have hd : decide ((i : Int) < (s.size : Int)) = false := by simp; omega
      have HF : Hid (weiP s.data.toList = n) := by
        show _ = _
        rw [hnw.out, List.take_of_length_le (by rw [HSZ.out]; omega)]
      clear hnw
      go_wp2_with fail
      go_ret
      exact ⟨by rw [HF.out]; rfl, hwr.out⟩

set_option maxHeartbeats 8000000 in
theorem samples_any (v : Value) (px : List Px) (d : Nat) (w : World) (hr : PRow w v px) (hd : d = 8 ∨ d = 16) (hv : ∀ p ∈ px, valP p = true) (hn : px.length ≤ 1000000) :
    Calls Tryz.prog 74 #[v, .int .i64 d] w fun e w' => e = .returned (.string ⟨(px.flatMap (pxB d)).toArray⟩) ∧ Below w.heap.size w w' := by
  have HPR := Lib.hid hr
  have HV := Lib.hid hv
  have HD := Lib.hid hd
  obtain ⟨x, c, rfl, hc1, hc2, -⟩ := hr
  unfold maxLen at hc2
  have hmax : maxLen = 9223372036854775807 := rfl
  obtain ⟨B, hB⟩ : ∃ B, B = w.heap.size := ⟨_, rfl⟩
  have HB := Lib.hid hB
  rw [← hB]
  clear hv hB hd
  go_enter Tryz.func74, Tryz.ntmps74
  go_wp2_with fail
  go_loopw [5, 13] (fun vo vk wr => ∃ (k : Nat) (xo : Option Addr) (no co : Nat), vk = .int .i64 k ∧ vo = .slice xo no co ∧ k ≤ px.length ∧ Hid (BRow wr B 5 (.slice xo no co) ((px.take k).flatMap (pxB d))) ∧ Hid (Below B w wr)) (fun _ vk _ => px.length - (intOf vk).toNat)
  case atStart => exact ⟨0, none, 0, 0, rfl, rfl, Nat.zero_le _, World.ownsRow_nil _ _ _ _, Below.refl _ _⟩
  case round =>
    obtain ⟨k, xo, no, co, rfl, rfl, hk, hor, hbw⟩ := hrel
    by_cases hlk : k < px.length
    · have hdk : decide ((k : Int) < (px.length : Int)) = true := by simp; omega
      have hprw := HPR.out.below (show Below w.heap.size w wr by rw [← HB.out]; exact hbw.out)
      obtain ⟨x', c', hxx, -, -, -, hcl⟩ := hprw
      cases hxx
      obtain ⟨bb, off, rfl, hcc⟩ := hcl (by rintro rfl; simp at hlk)
      obtain ⟨q1, q2, q3, q4⟩ := hcc k hlk
      obtain ⟨p, hp⟩ : ∃ p, px[k] = p := ⟨_, rfl⟩
      have HNX : Hid ((px.take (k + 1)).flatMap (pxB d) = (px.take k).flatMap (pxB d) ++ pxB d p) := by
        show _ = _
        rw [List.take_succ_eq_append_getElem hlk, List.flatMap_append, hp]; simp
      have hpv : valP p = true := by rw [← hp]; exact HV.out _ (List.getElem_mem hlk)
      rw [hp] at q1 q2 q3 q4
      obtain ⟨acc, hacc⟩ : ∃ a, (px.take k).flatMap (pxB d) = a := ⟨_, rfl⟩
      have hal : acc.length ≤ 100000000 := by
        rw [← hacc]
        have key : ∀ m : List Px, (m.flatMap (pxB d)).length ≤ 8 * m.length := by
          intro m
          induction m with
          | nil => simp
          | cons a r ih => rw [List.flatMap_cons, List.length_append, List.length_cons]; have := pxB_len d a; omega
        have := key (px.take k)
        rw [List.length_take] at this
        omega
      rw [hacc] at hor HNX
      clear hacc hcl hcc hp
      have HVA := Lib.hid (valP_at p hpv)
      have HP16 : Hid (pxB 16 p = vsB 16 (pxAt p) 4) := rfl
      have HP8 : Hid (to8I p.2.2.2 ≠ 0 → pxB 8 p = vsB 8 (pxAt p) 4) := fun h => by unfold pxB; rw [if_neg (by decide), if_neg h]; rfl
      have HP0 : Hid (to8I p.2.2.2 = 0 → pxB 8 p = [0, 0, 0, 0]) := fun h => by unfold pxB; rw [if_neg (by decide), if_pos h]
      obtain ⟨a, b, c, q⟩ := p
      have HIX := Lib.hid (fun i hi w => idx4 a b c q i hi w)
      simp only at q1 q2 q3 q4
      generalize pxAt (a, b, c, q) = f at *
      have HO : Hid (BRow ((wr.alloc (.cells #[.int .i64 a, .int .i64 b, .int .i64 c, .int .i64 q] 41)).alloc (.cells #[.int .i64 a, .int .i64 b, .int .i64 c, .int .i64 q] 104)) B 5 (.slice xo no co) acc) := World.ownsRow.alloc (World.ownsRow.alloc hor.out _) _
      have HBE := Lib.hid ((hbw.out.alloc (by rw [HB.out]; exact (show Below w.heap.size w wr by rw [← HB.out]; exact hbw.out).size) (.cells #[.int .i64 a, .int .i64 b, .int .i64 c, .int .i64 q] 41)).alloc (by have := (show Below w.heap.size w wr by rw [← HB.out]; exact hbw.out).size; rw [HB.out]; simp; omega) (.cells #[.int .i64 a, .int .i64 b, .int .i64 c, .int .i64 q] 104))
      have HK1 : Hid (Blk ((wr.alloc (.cells #[.int .i64 a, .int .i64 b, .int .i64 c, .int .i64 q] 41)).alloc (.cells #[.int .i64 a, .int .i64 b, .int .i64 c, .int .i64 q] 104)) wr.heap.size 41 (pxC (a, b, c, q))) := (Blk.new wr _ _).alloc _
      have HK2 : Hid (Blk ((wr.alloc (.cells #[.int .i64 a, .int .i64 b, .int .i64 c, .int .i64 q] 41)).alloc (.cells #[.int .i64 a, .int .i64 b, .int .i64 c, .int .i64 q] 104)) (wr.heap.size + 1) 104 (pxC (a, b, c, q))) := Blk.new_at (by simp) _ _
      have hBr : B ≤ wr.heap.size := by rw [HB.out]; exact (show Below w.heap.size w wr by rw [← HB.out]; exact hbw.out).size
      have HBR := Lib.hid hBr
      clear hor hbw hpv hBr
      by_cases h8 : d = 8
      · have e8 : ((d : Int) == 8) = true := by rw [h8]; rfl
        have HDD : Hid (pxB d (a, b, c, q) = pxB 8 (a, b, c, q)) := by show _ = _; rw [h8]
        clear h8
        obtain ⟨tq, htq⟩ : ∃ tq, tq = to8I q := ⟨_, rfl⟩
        have HTQ := Lib.hid (fun w => pto8_any q w)
        rw [← htq] at HTQ
        have HP8' : Hid (tq ≠ 0 → pxB 8 (a, b, c, q) = vsB 8 f 4) := fun h => HP8.out (by rw [htq] at h; exact h)
        have HP0' : Hid (tq = 0 → pxB 8 (a, b, c, q) = [0, 0, 0, 0]) := fun h => HP0.out (by rw [htq] at h; exact h)
        clear HP8 HP0 HP16 htq
        go_upto_region 6 with fail
        clear q1 q2 q3 q4
        generalize (wr.alloc (.cells #[.int .i64 a, .int .i64 b, .int .i64 c, .int .i64 q] 41)).alloc (.cells #[.int .i64 a, .int .i64 b, .int .i64 c, .int .i64 q] 104) = wz at *
        generalize wr.heap.size = K at *
        have y3 : wz.cell? ⟨K, 3, none⟩ = some (.int .i64 q) := HK1.out.cell 3
        go_wp2_with fail
        refine (HTQ.out _).mono ?_
        rintro e w1 ⟨rfl, rfl⟩
        clear y3
        by_cases hq0 : tq = 0
        · have eq0 : (tq == 0) = true := by rw [hq0]; rfl
          have HPX := Lib.hid (HP0'.out hq0)
          clear hq0
          have HIX0 : Hid (∀ i : Nat, i < 4 → ∀ w, (Instr.index 104 (.agg #[.int .i64 0, .int .i64 0, .int .i64 0, .int .i64 0]) (.int .i64 (i : Int))).run Tryz.prog w = .ok (.int .i64 (pxAt (0, 0, 0, 0) i)) w) := fun i hi w => idx4 0 0 0 0 i hi w
          have HPX0 : Hid (pxB 8 (a, b, c, q) = vsB 8 (pxAt (0, 0, 0, 0)) 4) := by show _ = _; rw [HPX.out]; decide +kernel
          generalize pxAt (0, 0, 0, 0) = f0 at *
          have y0 : wz.cell? ⟨K + 1, 0, none⟩ = some (.int .i64 a) := HK2.out.cell 0
          have y1 : wz.cell? ⟨K + 1, 1, none⟩ = some (.int .i64 b) := HK2.out.cell 1
          have y2 : wz.cell? ⟨K + 1, 2, none⟩ = some (.int .i64 c) := HK2.out.cell 2
          have y3 : wz.cell? ⟨K + 1, 3, none⟩ = some (.int .i64 q) := HK2.out.cell 3
          have z0 := HK2.out.frozen 0
          have z1 := HK2.out.frozen 1
          have z2 := HK2.out.frozen 2
          have z3 := HK2.out.frozen 3
          have HO4 : Hid (BRow ((((wz.setCell ⟨K + 1, 0, none⟩ (.int .i64 0)).setCell ⟨K + 1, 1, none⟩ (.int .i64 0)).setCell ⟨K + 1, 2, none⟩ (.int .i64 0)).setCell ⟨K + 1, 3, none⟩ (.int .i64 0)) B 5 (.slice xo no co) acc) := brow_put (brow_put (brow_put (brow_put HO.out HK2.out (by decide) 0 _) (HK2.out.put 0 _) (by decide) 1 _) ((HK2.out.put 0 _).put 1 _) (by decide) 2 _) (((HK2.out.put 0 _).put 1 _).put 2 _) (by decide) 3 _
          have HBE4 : Hid (Below B w ((((wz.setCell ⟨K + 1, 0, none⟩ (.int .i64 0)).setCell ⟨K + 1, 1, none⟩ (.int .i64 0)).setCell ⟨K + 1, 2, none⟩ (.int .i64 0)).setCell ⟨K + 1, 3, none⟩ (.int .i64 0))) := (((HBE.out.setCell (p := ⟨K + 1, 0, none⟩) (by show B ≤ K + 1; have := HBR.out; omega) _).setCell (p := ⟨K + 1, 1, none⟩) (by show B ≤ K + 1; have := HBR.out; omega) _).setCell (p := ⟨K + 1, 2, none⟩) (by show B ≤ K + 1; have := HBR.out; omega) _).setCell (p := ⟨K + 1, 3, none⟩) (by show B ≤ K + 1; have := HBR.out; omega) _
          have HSZ4 : Hid (B ≤ ((((wz.setCell ⟨K + 1, 0, none⟩ (.int .i64 0)).setCell ⟨K + 1, 1, none⟩ (.int .i64 0)).setCell ⟨K + 1, 2, none⟩ (.int .i64 0)).setCell ⟨K + 1, 3, none⟩ (.int .i64 0)).heap.size) := by have := HK2.out.lt; have := HBR.out; show _ ≤ _; simp [World.setCell]; omega
          go_wp2_with fail
          clear y0 y1 y2 y3 z0 z1 z2 z3
          generalize ((((wz.setCell ⟨K + 1, 0, none⟩ (.int .i64 0)).setCell ⟨K + 1, 1, none⟩ (.int .i64 0)).setCell ⟨K + 1, 2, none⟩ (.int .i64 0)).setCell ⟨K + 1, 3, none⟩ (.int .i64 0)) = w5 at *
          go_loopw [5, 36] (fun v0 vi wx => ∃ i : Nat, vi = .int .i64 i ∧ i ≤ 4 ∧ BRow wx B 5 v0 (acc ++ vsB 8 f0 i) ∧ Hid (Below B w wx) ∧ B ≤ wx.heap.size) (fun _ vi _ => 4 - (intOf vi).toNat)
          case atStart => exact ⟨0, rfl, by decide, by simpa [vsB] using HO4.out, HBE4.out, HSZ4.out⟩
          case round =>
            obtain ⟨i, rfl, hi, hrow, hbx, hszr⟩ := hrel
            obtain ⟨ac2, hac2⟩ : ∃ ac2, ac2 = acc ++ vsB 8 f0 i := ⟨_, rfl⟩
            have hal2 : ac2.length ≤ 100000008 := by rw [hac2, List.length_append]; have := vsB_len 8 f0 i; omega
            rw [← hac2] at hrow
            have HAC2 := Lib.hid hac2
            clear hac2
            obtain ⟨x2, n2, c2, rfl⟩ := ORow2.shape3 hrow
            by_cases hlt : i < 4
            · have dlt : decide ((i : Int) < 4) = true := by simp; omega
              have hix := HIX0.out i hlt
              obtain ⟨n, hn, hn2⟩ := to8_nat (f0 i)
              have HTI := Lib.hid (fun w => pto8_any (f0 i) w)
              rw [hn] at HTI
              have HSM : Hid (smB 8 (f0 i) = [UInt8.ofNat n]) := by show _ = _; unfold smB; rw [if_neg (by decide), hn]; rfl
              clear hn
              obtain ⟨fi, hfi⟩ : ∃ fi, f0 i = fi := ⟨_, rfl⟩
              rw [hfi] at hix HTI
              clear hfi
              have hw2 : IntKind.u8.wrap (n : Int) = (n : Int) := by rw [IntKind.wrap_u8]; omega
              go_wp2_with fail
              refine (HTI.out _).mono ?_
              rintro e w1 ⟨rfl, rfl⟩
              clear hix
              go_wp2_with (at_builtin; refine wpList_app el_b8 hrow hszr rfl rfl rfl (m := 0) rfl (by simp [Value.oneCell']) rfl (by omega) (by unfold maxLen; omega) ?_)
              intro r2 cap2 w4 ho2 hg2 _
              have hown2 := brow_more ho2 [UInt8.ofNat n] (by rw [one_cell n hn2]) rfl
              obtain ⟨hbel2, hsz2⟩ := below_app hbx.out hszr hrow hg2
              clear ho2 hg2 hrow
              go_wp2_with fail
              go_roundw
              case rel =>
                refine ⟨i + 1, by go_num, by omega, ?_, hbel2, hsz2⟩
                rw [vsB_succ, ← List.append_assoc, ← HAC2.out, HSM.out]
                exact hown2
              case measure => simp [intOf]; omega
            · have dlt : decide ((i : Int) < 4) = false := by simp; omega
              have hie : i = 4 := by omega
              subst hie
              have HRF : Hid (BRow wr B 5 (.slice x2 n2 c2) ((px.take (k + 1)).flatMap (pxB d))) := by
                show BRow _ _ _ _ _
                rw [HNX.out, HDD.out, HPX0.out, ← HAC2.out]; exact hrow
              clear hrow
              go_wp2_with fail
              go_roundw
              case rel => exact ⟨k + 1, x2, n2, c2, by go_num, rfl, by omega, HRF, hbx⟩
              case measure => simp [intOf]; omega
        · have eq0 : (tq == 0) = false := by simpa using hq0
          have HPX := Lib.hid (HP8'.out hq0)
          clear hq0
          have y0 : wz.cell? ⟨K + 1, 0, none⟩ = some (.int .i64 a) := HK2.out.cell 0
          have y1 : wz.cell? ⟨K + 1, 1, none⟩ = some (.int .i64 b) := HK2.out.cell 1
          have y2 : wz.cell? ⟨K + 1, 2, none⟩ = some (.int .i64 c) := HK2.out.cell 2
          have y3 : wz.cell? ⟨K + 1, 3, none⟩ = some (.int .i64 q) := HK2.out.cell 3
          go_wp2_with fail
          clear y0 y1 y2 y3
          go_loopw [5, 36] (fun v0 vi wx => ∃ i : Nat, vi = .int .i64 i ∧ i ≤ 4 ∧ BRow wx B 5 v0 (acc ++ vsB 8 f i) ∧ Hid (Below B w wx) ∧ B ≤ wx.heap.size) (fun _ vi _ => 4 - (intOf vi).toNat)
          case atStart => exact ⟨0, rfl, by decide, by simpa [vsB] using HO.out, HBE.out, (by have := HK2.out.lt; have := HBR.out; omega)⟩
          case round =>
            obtain ⟨i, rfl, hi, hrow, hbx, hszr⟩ := hrel
            obtain ⟨ac2, hac2⟩ : ∃ ac2, ac2 = acc ++ vsB 8 f i := ⟨_, rfl⟩
            have hal2 : ac2.length ≤ 100000008 := by rw [hac2, List.length_append]; have := vsB_len 8 f i; omega
            rw [← hac2] at hrow
            have HAC2 := Lib.hid hac2
            clear hac2
            obtain ⟨x2, n2, c2, rfl⟩ := ORow2.shape3 hrow
            by_cases hlt : i < 4
            · have dlt : decide ((i : Int) < 4) = true := by simp; omega
              have hix := HIX.out i hlt
              obtain ⟨n, hn, hn2⟩ := to8_nat (f i)
              have HTI := Lib.hid (fun w => pto8_any (f i) w)
              rw [hn] at HTI
              have HSM : Hid (smB 8 (f i) = [UInt8.ofNat n]) := by show _ = _; unfold smB; rw [if_neg (by decide), hn]; rfl
              clear hn
              obtain ⟨fi, hfi⟩ : ∃ fi, f i = fi := ⟨_, rfl⟩
              rw [hfi] at hix HTI
              clear hfi
              have hw2 : IntKind.u8.wrap (n : Int) = (n : Int) := by rw [IntKind.wrap_u8]; omega
              go_wp2_with fail
              refine (HTI.out _).mono ?_
              rintro e w1 ⟨rfl, rfl⟩
              clear hix
              go_wp2_with (at_builtin; refine wpList_app el_b8 hrow hszr rfl rfl rfl (m := 0) rfl (by simp [Value.oneCell']) rfl (by omega) (by unfold maxLen; omega) ?_)
              intro r2 cap2 w4 ho2 hg2 _
              have hown2 := brow_more ho2 [UInt8.ofNat n] (by rw [one_cell n hn2]) rfl
              obtain ⟨hbel2, hsz2⟩ := below_app hbx.out hszr hrow hg2
              clear ho2 hg2 hrow
              go_wp2_with fail
              go_roundw
              case rel =>
                refine ⟨i + 1, by go_num, by omega, ?_, hbel2, hsz2⟩
                rw [vsB_succ, ← List.append_assoc, ← HAC2.out, HSM.out]
                exact hown2
              case measure => simp [intOf]; omega
            · have dlt : decide ((i : Int) < 4) = false := by simp; omega
              have hie : i = 4 := by omega
              subst hie
              have HRF : Hid (BRow wr B 5 (.slice x2 n2 c2) ((px.take (k + 1)).flatMap (pxB d))) := by
                show BRow _ _ _ _ _
                rw [HNX.out, HDD.out, HPX.out, ← HAC2.out]; exact hrow
              clear hrow
              go_wp2_with fail
              go_roundw
              case rel => exact ⟨k + 1, x2, n2, c2, by go_num, rfl, by omega, HRF, hbx⟩
              case measure => simp [intOf]; omega
      · have e8 : ((d : Int) == 8) = false := by simp; omega
        have HDD : Hid (pxB d (a, b, c, q) = pxB 16 (a, b, c, q)) := by show _ = _; rw [HD.out.resolve_left h8]
        clear h8
        clear HP8 HP0
        go_upto_region 6 with fail
        clear q1 q2 q3 q4
        generalize (wr.alloc (.cells #[.int .i64 a, .int .i64 b, .int .i64 c, .int .i64 q] 41)).alloc (.cells #[.int .i64 a, .int .i64 b, .int .i64 c, .int .i64 q] 104) = wz at *
        generalize wr.heap.size = K at *
        have y0 : wz.cell? ⟨K + 1, 0, none⟩ = some (.int .i64 a) := HK2.out.cell 0
        have y1 : wz.cell? ⟨K + 1, 1, none⟩ = some (.int .i64 b) := HK2.out.cell 1
        have y2 : wz.cell? ⟨K + 1, 2, none⟩ = some (.int .i64 c) := HK2.out.cell 2
        have y3 : wz.cell? ⟨K + 1, 3, none⟩ = some (.int .i64 q) := HK2.out.cell 3
        go_wp2_with fail
        clear y0 y1 y2 y3
        go_loopw [5, 36] (fun v0 vi wx => ∃ i : Nat, vi = .int .i64 i ∧ i ≤ 4 ∧ BRow wx B 5 v0 (acc ++ vsB 16 f i) ∧ Hid (Below B w wx) ∧ B ≤ wx.heap.size) (fun _ vi _ => 4 - (intOf vi).toNat)
        case atStart => exact ⟨0, rfl, by decide, by simpa [vsB] using HO.out, HBE.out, (by have := HK2.out.lt; have := HBR.out; omega)⟩
        case round =>
          obtain ⟨i, rfl, hi, hrow, hbx, hszr⟩ := hrel
          obtain ⟨ac2, hac2⟩ : ∃ ac2, ac2 = acc ++ vsB 16 f i := ⟨_, rfl⟩
          have hal2 : ac2.length ≤ 100000008 := by rw [hac2, List.length_append]; have := vsB_len 16 f i; omega
          rw [← hac2] at hrow
          have HAC2 := Lib.hid hac2
          clear hac2
          obtain ⟨x2, n2, c2, rfl⟩ := ORow2.shape3 hrow
          by_cases hlt : i < 4
          · have dlt : decide ((i : Int) < 4) = true := by simp; omega
            have hix := HIX.out i hlt
            obtain ⟨n, hn, hn2⟩ := HVA.out i
            rw [hn] at hix
            have HSM : Hid (smB 16 (f i) = [UInt8.ofNat (n / 256), UInt8.ofNat (n % 256)]) := by show _ = _; rw [hn]; rfl
            have hw1 : IntKind.u8.wrap ((n : Int) / 256) = (n : Int) / 256 := by rw [IntKind.wrap_u8]; omega
            have hw2 : IntKind.u8.wrap (n : Int) = (n : Int) % 256 := by rw [IntKind.wrap_u8]
            clear hn
            go_upto_region 11 with fail
            clear hix
            go_wp2_with (at_builtin; refine wpList_app el_b8 hrow hszr rfl rfl rfl (m := 1) rfl (by simp [Value.oneCell']) rfl (by omega) (by unfold maxLen; omega) ?_)
            intro r2 cap2 w4 ho2 hg2 _
            have hown2 := brow_more ho2 [UInt8.ofNat (n / 256), UInt8.ofNat (n % 256)] (by rw [two_cells n hn2]) rfl
            obtain ⟨hbel2, hsz2⟩ := below_app hbx.out hszr hrow hg2
            clear ho2 hg2 hrow
            go_wp2_with fail
            go_roundw
            case rel =>
              refine ⟨i + 1, by go_num, by omega, ?_, hbel2, hsz2⟩
              rw [vsB_succ, ← List.append_assoc, ← HAC2.out, HSM.out]
              exact hown2
            case measure => simp [intOf]; omega
          · have dlt : decide ((i : Int) < 4) = false := by simp; omega
            have hie : i = 4 := by omega
            subst hie
            have HRF : Hid (BRow wr B 5 (.slice x2 n2 c2) ((px.take (k + 1)).flatMap (pxB d))) := by
              show BRow _ _ _ _ _
              rw [HNX.out, HDD.out, HP16.out, ← HAC2.out]; exact hrow
            clear hrow
            go_wp2_with fail
            go_roundw
            case rel => exact ⟨k + 1, x2, n2, c2, by go_num, rfl, by omega, HRF, hbx⟩
            case measure => simp [intOf]; omega
    · have hdk : decide ((k : Int) < (px.length : Int)) = false := by simp; omega
      have HOR := hor.out
      rw [List.take_of_length_le (by omega)] at HOR
      have hcs := run_str_of Tryz.underlying54 Tryz.underlying5 Tryz.underlying9 HOR
      clear hor HOR
      go_wp2_with fail
      go_ret
      exact ⟨rfl, hbw.out⟩
end Go.Proofs.YthbejefodelpkaaGreat
namespace Go.Proofs.YthbejefodelpkaaGreat
open Go.RowKit
set_option maxRecDepth 100000

/-- 'x[i:k]', its address under a name. -/
theorem wpList_slice_lh {P : Program} {w : World} {ops : Array Oper} {rest : List Oper} {o : Oper} {a : Act} {Q : Exit → Act → World → Prop} (hg : o.guard = none) {sOp iOp kOp : Operand} {t : TypeId}
    (ho : o.op = Op.slice t sOp (some iOp) (some kOp) none) (ht : P.underlying t = some (.slice (P.elem t))) {size : Nat} (hsz : ∀ w : World, (sizeOf (P.elem t)).run P w = .ok size w)
    {x : Option Addr} {n c : Nat} (hs : a.eval sOp = .slice x n c) {i k : Nat} (hi : a.eval iOp = .int .i64 (i : Int)) (hk : a.eval kOp = .int .i64 (k : Int)) (hik : i ≤ k) (hkc : k ≤ c)
    (h : ∀ x2, Hid (x2 = cutAt x c i size) → wpList P ops Q rest (a.put o.dst (.slice x2 (k - i) (c - i))) w) : wpList P ops Q (o :: rest) a w := by
  refine wpList_plain hg fun K hK => ?_
  have hr := run_slice_lh (P := P) (w := w) t x n c ht .i64 .i64 (i : Int) (k : Int) (by omega) (by omega) (by omega)
  have hr2 := run_sliceAt_slice (P := P) (w := w) t (.slice x n c) (some (.int .i64 (i : Int))) (some (.int .i64 (k : Int))) none ht
  rw [hr, hsz] at hr2
  simp only [Result.andThen, sliced, Int.toNat_natCast] at hr2
  unfold Oper.wp
  simp [execOp, ho, hs, hi, hk, hr2, Result.andThen]
  exact hK _ _ (h _ rfl)
theorem size_pix (w : World) : (sizeOf (Tryz.prog.elem 34)).run Tryz.prog w = .ok 4 w := by kernel_rfl
theorem und_pix : Tryz.prog.underlying 34 = some (.slice (Tryz.prog.elem 34)) := by kernel_rfl
theorem PRow.sub {w : World} {x x2 : Option Addr} {n c i k : Nat} {l : List Px} (h : PRow w (.slice x n c) l) (hik : i ≤ k) (hk : k ≤ n) (hx : x2 = cutAt x c i 4) : PRow w (.slice x2 (k - i) (c - i)) ((l.drop i).take (k - i)) := by
  unfold cutAt at hx
  obtain ⟨x', c', hv, h1, h2, h3, h4⟩ := h
  cases hv
  have hl : ((l.drop i).take (k - i)).length = k - i := by rw [List.length_take, List.length_drop]; omega
  refine ⟨x2, c - i, by rw [hl], by omega, by omega, fun h0 => ?_, fun hne => ?_⟩
  · rw [hx] at h0
    split at h0
    · omega
    · have : x = none := by cases x with | none => rfl | some a => cases h0
      have := h3 this
      omega
  · have hlt : i < k := by
      rcases Nat.lt_or_ge i k with h | h
      · exact h
      · exact absurd (List.eq_nil_of_length_eq_zero (by omega)) hne
    obtain ⟨b, off, rfl, hc⟩ := h4 (by rintro rfl; simp at hk; omega)
    rw [if_neg (by omega)] at hx
    refine ⟨b, off + i * 4, by rw [hx]; simp [Addr.add_lit], fun j hj => ?_⟩
    have := hc (i + j) (by omega)
    unfold PCell at this ⊢
    simp only [List.getElem_take, List.getElem_drop]
    have e : off + (i + j) * 4 = off + i * 4 + j * 4 := by rw [Nat.add_mul]; omega
    rw [e] at this
    exact this

/-- The best filter among the kinds 0 .. k, and what it makes of the line. -/
def bestN (bpp : Nat) (line above : List UInt8) : Nat → Nat × List UInt8
  | 0 => (0, filP 0 bpp line above)
  | k + 1 => if weiP (filP (k + 1 : Nat) bpp line above) < weiP (bestN bpp line above k).2 then (k + 1, filP (k + 1 : Nat) bpp line above) else bestN bpp line above k
def lineB (bpp : Nat) (line above : List UInt8) : List UInt8 := UInt8.ofNat (bestN bpp line above 4).1 :: (bestN bpp line above 4).2
/-- The bytes of line y. -/
def lnP (W d : Nat) (px : List Px) (y : Nat) : List UInt8 := ((px.drop (y * W)).take W).flatMap (pxB d)
def abP (W d : Nat) (px : List Px) (y : Nat) : List UInt8 := if y = 0 then [] else lnP W d px (y - 1)
def linesP (W H d : Nat) (px : List Px) : List UInt8 := (List.range H).flatMap fun y => lineB (d / 2) (lnP W d px y) (abP W d px y)
theorem pxB_size (d : Nat) (hd : d = 8 ∨ d = 16) (p : Px) : (pxB d p).length = d / 2 := by
  unfold pxB smB
  rcases hd with rfl | rfl
  · rw [if_neg (by decide)]; split <;> rfl
  · rfl
theorem flat_size (d : Nat) (hd : d = 8 ∨ d = 16) (m : List Px) : (m.flatMap (pxB d)).length = m.length * (d / 2) := by
  induction m with
  | nil => simp
  | cons p r ih => rw [List.flatMap_cons, List.length_append, ih, pxB_size d hd, List.length_cons, Nat.add_mul]; omega
theorem lnP_size (W H d : Nat) (hd : d = 8 ∨ d = 16) (px : List Px) (hp : px.length = W * H) (y : Nat) (hy : y < H) : (lnP W d px y).length = W * (d / 2) := by
  unfold lnP
  rw [flat_size d hd, List.length_take, List.length_drop, hp, Nat.min_eq_left]
  have h : (y + 1) * W ≤ W * H := by rw [Nat.mul_comm W H]; exact Nat.mul_le_mul_right W hy
  rw [Nat.add_mul] at h
  omega
theorem bestN_len (bpp : Nat) (line above : List UInt8) (k : Nat) : (bestN bpp line above k).2.length = line.length ∧ (bestN bpp line above k).1 ≤ k := by
  induction k with
  | zero => exact ⟨filP_len _ _ _ _, Nat.le_refl _⟩
  | succ k ih =>
    unfold bestN
    split
    · exact ⟨filP_len _ _ _ _, Nat.le_refl _⟩
    · exact ⟨ih.1, by omega⟩
theorem best_is (bpp : Nat) (line above : List UInt8) (k : Nat) : (bestN bpp line above k).2 = filP ((bestN bpp line above k).1 : Nat) bpp line above := by
  induction k with
  | zero => rfl
  | succ k ih =>
    unfold bestN
    split
    · rfl
    · exact ih
theorem lineB_len (bpp : Nat) (line above : List UInt8) : (lineB bpp line above).length = line.length + 1 := by
  unfold lineB; rw [List.length_cons, (bestN_len bpp line above 4).1]
theorem lines_take (W d : Nat) (px : List Px) (y : Nat) : linesP W (y + 1) d px = linesP W y d px ++ lineB (d / 2) (lnP W d px y) (abP W d px y) := by
  unfold linesP; rw [List.range_succ, List.flatMap_append]; simp
theorem lines_len (W H d : Nat) (hd : d = 8 ∨ d = 16) (px : List Px) (hp : px.length = W * H) : ∀ y, y ≤ H → (linesP W y d px).length = y * (W * (d / 2) + 1)
  | 0, _ => by simp [linesP]
  | y + 1, h => by rw [lines_take W, List.length_append, lines_len W H d hd px hp y (by omega), lineB_len, lnP_size W H d hd px hp y (by omega), Nat.add_mul]; omega
theorem ab_chk (W H d : Nat) (hd : d = 8 ∨ d = 16) (px : List Px) (hp : px.length = W * H) (y : Nat) (hy : y < H) (k : Nat) (hk : k ≤ 4) : fchk (k : Int) ((d / 2 : Nat) : Int) (lnP W d px y) (abP W d px y) = 0 := by
  unfold fchk
  rw [if_neg (by omega), if_neg (by rcases hd with rfl | rfl <;> simp), if_neg]
  rintro ⟨h1, h2⟩
  unfold abP at h1 h2
  by_cases h0 : y = 0
  · rw [if_pos h0] at h1; exact h1 rfl
  · rw [if_neg h0] at h2
    rw [lnP_size W H d hd px hp y hy, lnP_size W H d hd px hp (y - 1) (by omega)] at h2
    exact h2 rfl

set_option maxHeartbeats 8000000 in
theorem lines_any (W H d : Nat) (v : Value) (px : List Px) (w : World) (hr : PRow w v px) (hd : d = 8 ∨ d = 16) (hv : ∀ p ∈ px, valP p = true) (hp : px.length = W * H) (hW : W ≤ 256) (hH : H ≤ 256) :
    Calls Tryz.prog 48 #[.agg (imgI W H v), .int .i64 d] w fun e w' => e = .returned (.string ⟨(linesP W H d px).toArray⟩) ∧ Below w.heap.size w w' := by
  have HPR := Lib.hid hr
  have hWH : W * H ≤ 65536 := Nat.mul_le_mul hW hH
  have HSA : Hid (∀ v q w1, PRow w1 v q → (∀ p ∈ q, p ∈ px) → q.length ≤ 1000000 → Calls Tryz.prog 74 #[v, .int .i64 d] w1 fun e w' => e = .returned (.string ⟨(q.flatMap (pxB d)).toArray⟩) ∧ Below w1.heap.size w1 w') :=
    fun v q w1 h1 h2 h3 => samples_any v q d w1 h1 hd (fun p hp => hv p (h2 p hp)) h3
  obtain ⟨bp, hbp⟩ : ∃ b, b = d / 2 := ⟨_, rfl⟩
  have hbpi : (d : Int).tdiv 2 = (bp : Int) := by rw [hbp]; rfl
  have hbp8 : bp ≤ 8 := by rcases hd with rfl | rfl <;> omega
  have HLS := Lib.hid (fun y h => lnP_size W H d hd px hp y h)
  have HLT := Lib.hid (fun y => lines_take W d px y)
  have HLL := Lib.hid (fun y h => lines_len W H d hd px hp y h)
  have HAC := Lib.hid (fun y h k hk => ab_chk W H d hd px hp y h k hk)
  have HAB : Hid (∀ y, abP W d px (y + 1) = lnP W d px y) := fun y => by unfold abP; rw [if_neg (by omega)]; rfl
  have HA0 : Hid (abP W d px 0 = []) := rfl
  have HPL := Lib.hid hp
  rw [← hbp] at HLS HLT HLL HAC
  have HW0 : Hid (∀ y, y < H → (y + 1) * W ≤ px.length) := by
    intro y hy
    rw [hp, Nat.mul_comm W H]
    exact Nat.mul_le_mul_right W hy
  have HBP := Lib.hid hbp
  obtain ⟨xv, cv, rfl, hcv1, hcv2, -⟩ := hr
  unfold maxLen at hcv2
  have hmax : maxLen = 9223372036854775807 := rfl
  have hpl : px.length ≤ 65536 := by rw [hp]; exact hWH
  have HK0 := Lib.hid (Blk.new w 36 (imgI W H (.slice xv px.length cv)))
  have HB0 := Lib.hid ((Below.refl w.heap.size w).alloc (Nat.le_refl _) (.cells (imgI W H (.slice xv px.length cv)) 36))
  unfold imgI at HK0 HB0 ⊢
  clear hv hp hd hWH hbp
  go_enter Tryz.func48, Tryz.ntmps48
  go_upto_region 1 with fail
  generalize w.alloc (.cells #[.int .i64 (W : Int), .int .i64 (H : Int), .slice xv px.length cv] 36) = w0 at *
  obtain ⟨B, hB⟩ : ∃ B, B = w.heap.size := ⟨_, rfl⟩
  have HB := Lib.hid hB
  rw [← hB] at HK0 HB0 ⊢
  clear hB
  have k1 : w0.cell? ⟨B, 1, none⟩ = some (.int .i64 (H : Int)) := HK0.out.cell 1
  go_wp2_with fail
  clear k1
  go_loopw [5, 6, 18] (fun vo va vy wr => ∃ (y : Nat) (x : Option Addr) (n c : Nat) (ab : ByteArray), vy = .int .i64 y ∧ vo = .slice x n c ∧ va = .string ab ∧ y ≤ H ∧ Hid (ab.data.toList = abP W d px y) ∧ Hid (BRow wr B 5 (.slice x n c) (linesP W y d px)) ∧ Hid (Blk wr B 36 #[.int .i64 (W : Int), .int .i64 (H : Int), .slice xv px.length cv]) ∧ Hid (Below B w wr)) (fun _ _ vy _ => H - (intOf vy).toNat)
  case atStart => exact ⟨0, none, 0, 0, ⟨#[]⟩, rfl, rfl, rfl, Nat.zero_le _, by show _ = _; rw [HA0.out], World.ownsRow_nil _ _ _ _, HK0.out, HB0.out⟩
  case round =>
    obtain ⟨y, x, n, c, ab, rfl, rfl, rfl, hy, hab, hro, hka, hbw⟩ := hrel
    by_cases hlt : y < H
    · have hd : decide ((y : Int) < (H : Int)) = true := by simp; omega
      have k0 : wr.cell? ⟨B, 0, none⟩ = some (.int .i64 (W : Int)) := hka.out.cell 0
      have k2 : wr.cell? ⟨B, 2, none⟩ = some (.slice xv px.length cv) := hka.out.cell 2
      obtain ⟨a1, ha1⟩ : ∃ a, a = y * W := ⟨_, rfl⟩
      obtain ⟨a2, ha2⟩ : ∃ a, a = (y + 1) * W := ⟨_, rfl⟩
      have h12 : a2 = a1 + W := by rw [ha1, ha2, Nat.add_mul]; omega
      have h2l : a2 ≤ px.length := by rw [ha2]; exact HW0.out y hlt
      have hle01 : a1 ≤ a2 := by omega
      have hi1c : a2 ≤ cv := by omega
      have HSZ : Hid (wr.heap.size ≥ B) := by have := hka.out.lt; show _ ≤ _; omega
      have HPW : Hid (PRow wr (.slice xv px.length cv) px) := HPR.out.below (by rw [← HB.out]; exact hbw.out)
      have HLN : Hid (((px.drop a1).take (a2 - a1)).flatMap (pxB d) = lnP W d px y) := by
        show _ = _
        unfold lnP
        rw [ha1, show a2 - y * W = W by omega]
      have hm1 : (y : Int) * (W : Int) = (a1 : Int) := by rw [ha1]; simp
      have hm2 : ((y : Int) + 1) * (W : Int) = (a2 : Int) := by rw [ha2]; simp
      have HA12 := Lib.hid h12
      clear ha1 ha2 h12
      go_wp2_with (refine wpList_slice_lh (o := ⟨some 32, _, _, _, _, _⟩) rfl rfl und_pix size_pix rfl rfl rfl hle01 hi1c ?_)
      intro x2 hx2
      have hsub := HPW.out.sub (i := a1) (k := a2) hle01 h2l hx2.out
      have HCA := Lib.hid (HSA.out _ _ wr hsub (fun p hp => List.mem_of_mem_drop (List.mem_of_mem_take hp)) (by rw [List.length_take, List.length_drop]; omega))
      rw [HLN.out] at HCA
      obtain ⟨LN, hLN⟩ : ∃ s : ByteArray, s = ⟨(lnP W d px y).toArray⟩ := ⟨_, rfl⟩
      have HLL2 : Hid (LN.data.toList = lnP W d px y) := by show _ = _; rw [hLN]
      have hlsz : LN.size ≤ 2048 := by
        have h1 : LN.size = LN.data.toList.length := by simp
        rw [h1, HLL2.out, HLS.out y hlt]
        have : W * bp ≤ 256 * 8 := Nat.mul_le_mul hW hbp8
        omega
      rw [← hLN] at HCA
      clear hsub hx2 hm1 hm2 hle01 hi1c h2l k0 k2 hLN HPW
      go_wp2_with fail
      refine HCA.out.mono ?_
      rintro e w1 ⟨rfl, hb1⟩
      have HW1 : Hid (Below B w w1) := hbw.out.trans (hb1.mono (by have := HSZ.out; omega))
      have HK1 : Hid (Blk w1 B 36 #[.int .i64 (W : Int), .int .i64 (H : Int), .slice xv px.length cv]) := hka.out.keep hb1
      have HR1 : Hid (BRow w1 B 5 (.slice x n c) (linesP W y d px)) := (Fr.of_below (B := 0) hb1 []).owns hro.out (by simp)
      have HFI : Hid (∀ k : Nat, k ≤ 4 → ∀ w, Calls Tryz.prog 18 #[.int .i64 (k : Int), .int .i64 (bp : Int), .string LN, .string ab] w fun e w' => e = .returned (.tuple #[.string ⟨(filP (k : Nat) bp LN.data.toList ab.data.toList).toArray⟩, .int .i64 0]) ∧ Below w.heap.size w w') := by
        intro k hk w
        have h := filter_any (k : Int) (bp : Int) LN ab w (by omega)
        have h0 : fchk (k : Int) (bp : Int) LN.data.toList ab.data.toList = 0 := by rw [HLL2.out, hab.out]; exact HAC.out y hlt k hk
        rw [if_pos h0, h0, Int.toNat_natCast] at h
        exact h
      have HWE : Hid (∀ k : Nat, ∀ w, Calls Tryz.prog 75 #[.string ⟨(filP (k : Nat) bp LN.data.toList ab.data.toList).toArray⟩] w fun e w' => e = .returned (.int .i64 (weiP (filP (k : Nat) bp LN.data.toList ab.data.toList) : Nat)) ∧ w = w') := by
        intro k w
        have h := weight_any ⟨(filP (k : Nat) bp LN.data.toList ab.data.toList).toArray⟩ w (by
          have : (⟨(filP (k : Nat) bp LN.data.toList ab.data.toList).toArray⟩ : ByteArray).size = (filP (k : Nat) bp LN.data.toList ab.data.toList).length := by simp [ByteArray.size]
          rw [this, filP_len]; simp; omega)
        have e : (⟨(filP (k : Nat) bp LN.data.toList ab.data.toList).toArray⟩ : ByteArray).data.toList = filP (k : Nat) bp LN.data.toList ab.data.toList := by simp
        rw [e] at h
        exact h
      have HBS : Hid (bestN bp LN.data.toList ab.data.toList 0 = (0, filP (0 : Nat) bp LN.data.toList ab.data.toList) ∧ ∀ k, bestN bp LN.data.toList ab.data.toList (k + 1) = if weiP (filP (k + 1 : Nat) bp LN.data.toList ab.data.toList) < weiP (bestN bp LN.data.toList ab.data.toList k).2 then (k + 1, filP (k + 1 : Nat) bp LN.data.toList ab.data.toList) else bestN bp LN.data.toList ab.data.toList k) := ⟨rfl, fun k => rfl⟩
      have HLB : Hid (lineB bp (lnP W d px y) (abP W d px y) = UInt8.ofNat (bestN bp LN.data.toList ab.data.toList 4).1 :: (bestN bp LN.data.toList ab.data.toList 4).2) := by show _ = _; rw [HLL2.out, hab.out]; rfl
      have HBL := Lib.hid (fun k => bestN_len bp LN.data.toList ab.data.toList k)
      have HLZ : Hid (LN.data.toList.length ≤ 2048) := by show _ ≤ _; simp; exact hlsz
      generalize hFF : (fun k : Nat => filP (k : Nat) bp LN.data.toList ab.data.toList) = FF at *
      have HFF : Hid (∀ k : Nat, filP (k : Nat) bp LN.data.toList ab.data.toList = FF k) := fun k => by rw [← hFF]
      generalize hBN : bestN bp LN.data.toList ab.data.toList = bn at *
      clear hFF hBN hb1 hka hbw hro HCA
      go_wp2_with fail
      go_loopw [9, 10, 11, 35] (fun v9 v10 v11 vk wx => ∃ (k b : Nat) (ls : Int) (f : ByteArray), vk = .int .i64 k ∧ v9 = .int .i64 b ∧ v10 = .int .i64 ls ∧ v11 = .string f ∧ k ≤ 5 ∧ ((k = 0 ∧ ls < 0) ∨ (0 < k ∧ 0 ≤ ls)) ∧ Hid (k = 0 ∨ ∃ j, k = j + 1 ∧ b = (bn j).1 ∧ ls = (weiP (bn j).2 : Nat) ∧ f.data.toList = (bn j).2) ∧ Hid (Below w1.heap.size w1 wx)) (fun _ _ _ vk _ => 5 - (intOf vk).toNat)
      case atStart => exact ⟨0, 0, -1, ⟨#[]⟩, rfl, rfl, rfl, rfl, by decide, .inl ⟨rfl, by decide⟩, .inl rfl, Below.refl _ _⟩
      case round =>
        obtain ⟨k, b, ls, f, rfl, rfl, rfl, rfl, hk, hls, hst, hbx⟩ := hrel
        by_cases hk5 : k < 5
        · have hdk : decide ((k : Int) < 5) = true := by simp; omega
          have HF1 := Lib.hid (HFI.out k (by omega))
          have HW2 := Lib.hid (HWE.out k)
          rw [HFF.out k] at HF1 HW2
          obtain ⟨wt, hwt⟩ : ∃ n, weiP (FF k) = n := ⟨_, rfl⟩
          rw [hwt] at HW2
          have HWT := Lib.hid hwt
          obtain ⟨fs, hfs⟩ : ∃ s : ByteArray, s = ⟨(FF k).toArray⟩ := ⟨_, rfl⟩
          have HFS : Hid (fs.data.toList = FF k) := by show _ = _; rw [hfs]
          rw [← hfs] at HF1 HW2
          clear hwt hfs
          go_wp2_with fail
          refine (HF1.out _).mono ?_
          rintro e w2 ⟨rfl, hb2⟩
          have HB2 := Lib.hid (bthen hbx.out hb2)
          clear hb2
          go_wp2_with fail
          refine (HW2.out _).mono ?_
          rintro e w' ⟨rfl, rfl⟩
          by_cases hup : ls < 0 ∨ (wt : Int) < ls
          · have HNX : Hid (k + 1 = 0 ∨ ∃ j, k + 1 = j + 1 ∧ k = (bn j).1 ∧ ((wt : Nat) : Int) = (weiP (bn j).2 : Nat) ∧ fs.data.toList = (bn j).2) := by
              refine .inr ⟨k, rfl, ?_⟩
              rcases hst.out with h0 | ⟨j, hj, h1, h2, h3⟩
              · subst h0
                rw [HBS.out.1, HFF.out, HFS.out]
                refine ⟨rfl, ?_, rfl⟩
                rw [← HWT.out]
              · subst hj
                have hlt2 : weiP (FF (j + 1)) < weiP (bn j).2 := by rw [HWT.out]; omega
                rw [HBS.out.2, HFF.out, if_pos hlt2, HFS.out]
                refine ⟨rfl, ?_, rfl⟩
                rw [← HWT.out]
            by_cases h0 : ls < 0
            · have d0 : decide (ls < 0) = true := by simpa using h0
              clear hst hup
              go_wp2_with fail
              go_roundw
              case rel => exact ⟨k + 1, k, wt, fs, by go_num, rfl, rfl, rfl, by omega, .inr ⟨by omega, by omega⟩, HNX, HB2⟩
              case measure => simp [intOf]; omega
            · have d0 : decide (ls < 0) = false := by simpa using h0
              have d1 : decide ((wt : Int) < ls) = true := by simpa using hup.resolve_left h0
              clear hst hup
              go_wp2_with fail
              go_roundw
              case rel => exact ⟨k + 1, k, wt, fs, by go_num, rfl, rfl, rfl, by omega, .inr ⟨by omega, by omega⟩, HNX, HB2⟩
              case measure => simp [intOf]; omega
          · have d0 : decide (ls < 0) = false := by simp; omega
            have d1 : decide ((wt : Int) < ls) = false := by simp; omega
            have HNX : Hid (k + 1 = 0 ∨ ∃ j, k + 1 = j + 1 ∧ b = (bn j).1 ∧ ls = (weiP (bn j).2 : Nat) ∧ f.data.toList = (bn j).2) := by
              refine .inr ⟨k, rfl, ?_⟩
              rcases hst.out with h0 | ⟨j, hj, h1, h2, h3⟩
              · exfalso; omega
              · subst hj
                have hlt2 : ¬ weiP (FF (j + 1)) < weiP (bn j).2 := by rw [HWT.out]; omega
                rw [HBS.out.2, HFF.out, if_neg hlt2]
                exact ⟨h1, h2, h3⟩
            have hls2 : 0 ≤ ls := by omega
            clear hst hup hls
            go_wp2_with fail
            go_roundw
            case rel => exact ⟨k + 1, b, ls, f, by go_num, rfl, rfl, rfl, by omega, .inr ⟨by omega, hls2⟩, HNX, HB2⟩
            case measure => simp [intOf]; omega
        · have hdk : decide ((k : Int) < 5) = false := by simp; omega
          obtain ⟨hb4, hf4⟩ : b = (bn 4).1 ∧ f.data.toList = (bn 4).2 := by
            rcases hst.out with h0 | ⟨j, hj, h1, h2, h3⟩
            · exfalso; omega
            · have : j = 4 := by omega
              subst this
              exact ⟨h1, h3⟩
          have hbl := (HBL.out 4).2
          rw [← hb4] at hbl
          have hfsz : f.size ≤ 2048 := by
            have h1 : f.size = f.data.toList.length := by simp
            rw [h1, hf4, (HBL.out 4).1]; exact HLZ.out
          have hw2 : IntKind.u8.wrap (b : Int) = (b : Int) := by rw [IntKind.wrap_u8]; omega
          have HW3 : Hid (Below B w wr) := HW1.out.trans (hbx.out.mono (by have := HK1.out.lt; omega))
          have HK3 : Hid (Blk wr B 36 #[.int .i64 (W : Int), .int .i64 (H : Int), .slice xv px.length cv]) := HK1.out.keep hbx.out
          have hrow : BRow wr B 5 (.slice x n c) (linesP W y d px) := (Fr.of_below (B := 0) hbx.out []).owns HR1.out (by simp)
          have hll := HLL.out y hy
          obtain ⟨acc, hacc⟩ : ∃ a, linesP W y d px = a := ⟨_, rfl⟩
          have hal : acc.length ≤ 1000000 := by
            rw [← hacc, hll]
            have h1 : W * bp ≤ 256 * 8 := Nat.mul_le_mul hW hbp8
            have h2 : y * (W * bp + 1) ≤ 256 * 2049 := Nat.mul_le_mul (by omega) (by omega)
            omega
          rw [hacc] at hrow
          have HNL : Hid (linesP W (y + 1) d px = acc ++ [UInt8.ofNat b] ++ f.data.toList) := by
            show _ = _
            rw [HLT.out, HLB.out, hacc, ← hb4, hf4]; simp
          have hsz : B ≤ wr.heap.size := by have := HK3.out.lt; omega
          clear hst hb4 hf4 hacc hll HFI HWE hls
          go_wp2_with (at_builtin; refine wpList_app el_b8 hrow hsz rfl rfl rfl (m := 0) rfl (by simp [Value.oneCell']) rfl (by omega) (by unfold maxLen; omega) ?_)
          intro r2 cap2 w4 ho2 hg2 _
          have hown2 := brow_more ho2 [UInt8.ofNat b] (by rw [one_cell b (by omega)]) rfl
          obtain ⟨hbel2, hsz2⟩ := below_app HW3.out hsz hrow hg2
          have hka2 := HK3.out.alloc (.cells #[.int .u8 (b : Int)] 5)
          have HK4 : Hid (Blk w4 B 36 #[.int .i64 (W : Int), .int .i64 (H : Int), .slice xv px.length cv]) := (hg2.block _ hka2.lt (own_blk_ne' hka2 (World.ownsRow.alloc hrow _).2 (by decide))).trans hka2
          have HB4 := Lib.hid hbel2
          have hln : (acc ++ [UInt8.ofNat b]).length + f.size ≤ 140737488355328 := by rw [List.length_append, List.length_singleton]; omega
          clear ho2 hg2 hrow hka2 hbel2 hsz
          go_wp2_with (at_builtin; refine wpList_app3 el_b8 Tryz.underlying9 (.inl hown2) hsz2 rfl rfl rfl rfl hln ?_)
          intro v5 w5 hrow5 hkp5 hbe5
          have HK5 := Lib.hid (hkp5 _ _ _ (by decide) HK4.out)
          have HB5 := Lib.hid (HB4.out.trans hbe5)
          have HR5 : Hid (BRow w5 B 5 v5 (linesP W (y + 1) d px)) := by
            show BRow _ _ _ _ _
            rw [HNL.out]; simpa using hrow5
          obtain ⟨x5, n5, c5, rfl⟩ := ORow2.shape3 hrow5
          have HAN : Hid (LN.data.toList = abP W d px (y + 1)) := by show _ = _; rw [HLL2.out, HAB.out]
          clear hown2 hsz2 hln hrow5 hkp5 hbe5 HK4 HB4
          go_wp2_with fail
          go_roundw
          case rel => exact ⟨y + 1, x5, n5, c5, LN, by go_num, rfl, rfl, by omega, HAN, HR5, HK5, HB5⟩
          case measure => simp [intOf]; omega
    · have hd : decide ((y : Int) < (H : Int)) = false := by simp; omega
      have HOR := hro.out
      rw [show y = H by omega] at HOR
      have hcs := run_str_of Tryz.underlying54 Tryz.underlying5 Tryz.underlying9 HOR
      clear hro HOR
      go_wp2_with fail
      go_ret
      exact ⟨rfl, by rw [← HB.out]; exact hbw.out⟩
end Go.Proofs.YthbejefodelpkaaGreat
namespace Go.Proofs.YthbejefodelpkaaGreat
open Go.RowKit
set_option maxRecDepth 100000

theorem name_len {l : List UInt8} (h : nameP l = true) : l.length = 4 := by
  unfold nameP at h
  simp only [Bool.and_eq_true, beq_iff_eq] at h
  exact h.1
theorem app_take {α : Type} (a b : List α) (n : Nat) (h : a.length = n) : (a ++ b).take n = a := by subst h; exact List.take_left
theorem app_drop {α : Type} (a b : List α) (n : Nat) (h : a.length = n) : (a ++ b).drop n = b := by subst h; exact List.drop_left
theorem ckStep_ckB (c : Mt) (q : List UInt8) (hn : nameP c.1 = true) (hd : c.2.length ≤ 1048576) : ckStep (ckB c ++ q) = .ok (c, q) := by
  obtain ⟨nm, dt⟩ := c
  simp only at hn hd
  have h4 := name_len hn
  have hb : (be4 dt.length).length = 4 := rfl
  have hc : (be4 (crcP (nm ++ dt))).length = 4 := rfl
  have e0 : ckB (nm, dt) ++ q = be4 dt.length ++ (nm ++ (dt ++ (be4 (crcP (nm ++ dt)) ++ q))) := by unfold ckB; simp only [List.append_assoc]
  have e1 : (ckB (nm, dt) ++ q).take 4 = be4 dt.length := by rw [e0]; exact app_take _ _ 4 hb
  have e2 : (ckB (nm, dt) ++ q).take 8 = be4 dt.length ++ nm := by rw [e0, ← List.append_assoc]; exact app_take _ _ 8 (by rw [List.length_append]; omega)
  have e3 : (ckB (nm, dt) ++ q).take (8 + dt.length) = be4 dt.length ++ nm ++ dt := by rw [e0, ← List.append_assoc, ← List.append_assoc]; exact app_take _ _ _ (by simp only [List.length_append]; omega)
  have e4 : (ckB (nm, dt) ++ q).take (12 + dt.length) = be4 dt.length ++ nm ++ dt ++ be4 (crcP (nm ++ dt)) := by
    rw [e0, ← List.append_assoc, ← List.append_assoc, ← List.append_assoc]; exact app_take _ _ _ (by simp only [List.length_append]; omega)
  have e5 : (ckB (nm, dt) ++ q).drop (12 + dt.length) = q := by
    rw [e0, ← List.append_assoc, ← List.append_assoc, ← List.append_assoc]; exact app_drop _ _ _ (by simp only [List.length_append]; omega)
  have hl : (ckB (nm, dt) ++ q).length = 12 + dt.length + q.length := by rw [List.length_append, ckB_len]; simp only; omega
  unfold ckStep
  rw [e1, beP_be4 _ (by omega), e2, e3, e4, e5, hl]
  rw [if_neg (by omega), if_neg (by omega), app_drop (be4 dt.length) nm 4 hb, if_neg (by rw [hn]; decide), if_neg (by omega)]
  rw [app_drop (be4 dt.length ++ nm ++ dt) _ (8 + dt.length) (by simp only [List.length_append]; omega)]
  rw [List.append_assoc, app_drop (be4 dt.length) (nm ++ dt) 4 hb, beP_be4 _ (crcP_lt _), if_neg (by simp)]
  rw [← List.append_assoc, app_drop (be4 dt.length ++ nm) dt 8 (by rw [List.length_append]; omega)]
theorem lastD_cons (c d : Mt) (r : List Mt) : lastD (c :: d :: r) = lastD (d :: r) := by unfold lastD; rw [List.getLast?_cons_cons]
theorem chunks_join_go (l : List Mt) : ∀ (f : Nat) (acc : List Mt), jErr l = 0 → jOrd l = true → l ≠ [] → lastD l = [] → l.length ≤ f → ckGo f acc (l.flatMap ckB) = .ok (acc ++ l) := by
  induction l with
  | nil => intro f acc _ _ h; exact absurd rfl h
  | cons c r ih =>
    intro f acc h1 h2 _ h4 h5
    cases f with
    | zero => simp at h5
    | succ f =>
      unfold jErr at h1
      have hn : nameP c.1 = true := by
        cases h : nameP c.1 with
        | true => rfl
        | false => rw [if_pos h] at h1; cases h1
      rw [if_neg (by rw [hn]; decide)] at h1
      have hd : c.2.length ≤ 1048576 := by
        rcases Nat.lt_or_ge 1048576 c.2.length with h | h
        · rw [if_pos h] at h1; cases h1
        · exact h
      rw [if_neg (by omega)] at h1
      rw [List.flatMap_cons]
      unfold ckGo
      rw [ckStep_ckB c _ hn hd]
      simp only
      cases r with
      | nil =>
        have hi : c.1 = iendP := by simpa [jOrd] using h2
        have hd0 : c.2 = [] := by simpa [lastD] using h4
        rw [if_pos hi, if_neg (by rw [hd0]; simp), if_neg (by simp)]
      | cons d r =>
        unfold jOrd at h2
        simp only [Bool.and_eq_true, bne_iff_ne, ne_eq] at h2
        rw [if_neg h2.1, ih f (acc ++ [c]) h1 h2.2 (by simp) (by rw [← lastD_cons]; exact h4) (by simpa using h5), List.append_assoc]
        rfl
theorem flat_len (l : List Mt) : l.length ≤ (l.flatMap ckB).length := by
  induction l with
  | nil => simp
  | cons c r ih => rw [List.flatMap_cons, List.length_append, ckB_len, List.length_cons]; omega
theorem join_ok {l : List Mt} {t : List UInt8} (h : joinP l = .ok t) : jErr l = 0 ∧ jOrd l = true ∧ l ≠ [] ∧ lastD l = [] ∧ t = sigP ++ l.flatMap ckB := by
  unfold joinP at h
  by_cases h1 : jErr l = 0
  · rw [if_neg (by simp [h1])] at h
    by_cases h2 : jOrd l = false ∨ l = []
    · rw [if_pos h2] at h; cases h
    · rw [if_neg h2] at h
      by_cases h3 : lastD l = []
      · rw [if_neg (by simp [h3])] at h
        injection h with h
        refine ⟨h1, ?_, fun e => h2 (.inr e), h3, h.symm⟩
        cases hj : jOrd l with
        | true => rfl
        | false => exact absurd (.inl hj) h2
      · rw [if_pos h3] at h; cases h
  · rw [if_pos h1] at h; cases h
/-- The chunks of a joined file. -/
theorem chunks_join {l : List Mt} {t : List UInt8} (h : joinP l = .ok t) : chunksP t = .ok l := by
  obtain ⟨h1, h2, h3, h4, rfl⟩ := join_ok h
  have hd : (sigP ++ l.flatMap ckB).drop 8 = l.flatMap ckB := app_drop _ _ 8 rfl
  unfold chunksP
  have hb : begP sigP (sigP ++ l.flatMap ckB) = true := by
    unfold begP
    rw [List.length_append]
    have : (sigP ++ l.flatMap ckB).take sigP.length = sigP := List.take_left
    rw [this]
    simp
  rw [if_pos hb, hd, chunks_join_go l _ [] h1 h2 h3 h4 (by rw [List.length_append]; have := flat_len l; omega)]
  rfl
theorem ckStep_inv {r q : List UInt8} {c : Mt} (h : ckStep r = .ok (c, q)) : r = ckB c ++ q ∧ nameP c.1 = true ∧ c.2.length ≤ 1048576 := by
  have hr := ckStep_rest h
  unfold ckStep at h
  split at h; · cases h
  split at h; · cases h
  split at h; · cases h
  rename_i h8 hlim hnm
  split at h; · cases h
  split at h; · cases h
  rename_i hsh hcr
  clear h
  obtain ⟨hq, hlen, hc⟩ := hr
  obtain ⟨n, hn⟩ : ∃ n, beP (r.take 4) = n := ⟨_, rfl⟩
  rw [hn] at hq hlen hc hlim hsh hcr
  have hcr : beP ((r.take (12 + n)).drop (8 + n)) = crcP ((r.take (8 + n)).drop 4) := Decidable.not_not.1 hcr
  have hnm : nameP ((r.take 8).drop 4) = true := by simpa using hnm
  subst hc
  refine ⟨?_, hnm, by simp only [List.length_drop, List.length_take]; omega⟩
  have hdl : ((r.take (8 + n)).drop 8).length = n := by rw [List.length_drop, List.length_take]; omega
  have hnd : (r.take 8).drop 4 ++ (r.take (8 + n)).drop 8 = (r.take (8 + n)).drop 4 := by
    have h1 : (r.take (8 + n)).drop 4 = ((r.take (8 + n)).drop 4).take 4 ++ ((r.take (8 + n)).drop 4).drop 4 := (List.take_append_drop 4 _).symm
    rw [h1, List.drop_drop]
    congr 1
    rw [List.take_drop, List.take_take]
    congr 2
    omega
  unfold ckB
  simp only
  rw [hdl, hnd, ← hcr, ← hn, be4_beP _ (by rw [List.length_take]; omega), hn, be4_beP _ (by rw [List.length_drop, List.length_take]; omega), hq]
  have e1 : r = r.take (12 + n) ++ r.drop (12 + n) := (List.take_append_drop _ r).symm
  have e2 : r.take (12 + n) = r.take (8 + n) ++ (r.take (12 + n)).drop (8 + n) := by
    have h2 : (r.take (12 + n)).take (8 + n) = r.take (8 + n) := by rw [List.take_take, Nat.min_eq_left (by omega)]
    conv => lhs; rw [← List.take_append_drop (8 + n) (r.take (12 + n)), h2]
  have e3 : r.take (8 + n) = r.take 4 ++ ((r.take (8 + n)).drop 4) := by
    have h2 : (r.take (8 + n)).take 4 = r.take 4 := by rw [List.take_take, Nat.min_eq_left (by omega)]
    conv => lhs; rw [← List.take_append_drop 4 (r.take (8 + n)), h2]
  have e4 : r.take 4 ++ (r.take 8).drop 4 ++ (r.take (8 + n)).drop 8 = r.take (8 + n) := by
    rw [List.append_assoc, hnd]; exact e3.symm
  rw [e4, ← e2]
  exact e1
theorem ckGo_inv (f : Nat) : ∀ (acc : List Mt) (r : List UInt8) (m : List Mt), ckGo f acc r = .ok m → ∃ l, m = acc ++ l ∧ r = l.flatMap ckB ∧ jErr l = 0 ∧ jOrd l = true ∧ l ≠ [] ∧ lastD l = [] := by
  induction f with
  | zero => intro acc r m h; cases h
  | succ f ih =>
    intro acc r m h
    unfold ckGo at h
    cases hs : ckStep r with
    | error e => rw [hs] at h; cases h
    | ok x =>
      obtain ⟨c, q⟩ := x
      rw [hs] at h
      simp only at h
      obtain ⟨hr, hn, hd⟩ := ckStep_inv hs
      by_cases hi : c.1 = iendP
      · rw [if_pos hi] at h
        by_cases h0 : c.2 = []
        · rw [if_neg (by simp [h0])] at h
          by_cases h1 : q = []
          · rw [if_neg (by simp [h1])] at h
            injection h with h
            refine ⟨[c], h.symm, by rw [hr, h1]; simp, ?_, ?_, by simp, by simpa [lastD] using h0⟩
            · unfold jErr; rw [if_neg (by rw [hn]; decide), if_neg (by omega)]; rfl
            · simp [jOrd, hi]
          · rw [if_pos h1] at h; cases h
        · rw [if_pos h0] at h; cases h
      · rw [if_neg hi] at h
        obtain ⟨l, rfl, rfl, h1, h2, h3, h4⟩ := ih _ _ _ h
        obtain ⟨d, l', rfl⟩ : ∃ d l', l = d :: l' := by
          cases l with
          | nil => exact absurd rfl h3
          | cons d l' => exact ⟨d, l', rfl⟩
        refine ⟨c :: d :: l', by simp, by rw [hr]; rfl, ?_, ?_, by simp, by rw [lastD_cons]; exact h4⟩
        · unfold jErr; rw [if_neg (by rw [hn]; decide), if_neg (by omega)]; exact h1
        · unfold jOrd; simp only [Bool.and_eq_true, bne_iff_ne, ne_eq]; exact ⟨hi, h2⟩
/-- The chunks of a file, joined. -/
theorem join_chunks {s : List UInt8} {m : List Mt} (h : chunksP s = .ok m) : joinP m = .ok s := by
  unfold chunksP at h
  by_cases hb : begP sigP s = true
  · rw [if_pos hb] at h
    obtain ⟨l, hm, hr, h1, h2, h3, h4⟩ := ckGo_inv _ _ _ _ h
    rw [List.nil_append] at hm
    subst hm
    unfold joinP
    rw [if_neg (by simp [h1]), if_neg (by simp [h2, h3]), if_neg (by simp [h4]), ← hr]
    unfold begP at hb
    simp only [Bool.and_eq_true, beq_iff_eq] at hb
    have : sigP = s.take 8 := hb.2.symm
    rw [this, List.take_append_drop]
  · rw [if_neg hb] at h; cases h
end Go.Proofs.YthbejefodelpkaaGreat
