/-
  Walks: the bytes of a pixel, in the program of pam.
-/
import Derived.Test.YtakkdgcmeeilbaaDoorRas
namespace Go.Proofs.YtakkdgcmeeilbaaDoor
open Go.RowKit

theorem el_u8 : Elem Tryd.prog 42 5 (.int .u8 0) 1 1 := by
  refine ⟨Tryd.underlying42, ?_, rfl, by decide⟩
  exact info_parts (by kernel_rfl)
theorem brow_shape {w : World} {b : Nat} {e : TypeId} {v : Value} {l : List UInt8} (h : BRow w b e v l) : ∃ x c, v = .slice x l.length c := by
  rcases h.2 with ⟨rfl, h0⟩ | ⟨g, cap, cur, rfl, _⟩
  · exact ⟨none, 0, by rw [h0]⟩
  · exact ⟨_, _, rfl⟩
/-- The bytes of a value. -/
def smB (d : Nat) (v : Int) : List UInt8 := if d = 16 then [UInt8.ofNat (v.toNat / 256), UInt8.ofNat (v.toNat % 256)] else [UInt8.ofNat (to8I v).toNat]
/-- The bytes of a pixel. -/
def pxB (d : Nat) (p : Px) : List UInt8 :=
  if d = 16 then smB 16 p.1 ++ smB 16 p.2.1 ++ smB 16 p.2.2.1 ++ smB 16 p.2.2.2
  else if to8I p.2.2.2 = 0 then [0, 0, 0, 0] else smB 8 p.1 ++ smB 8 p.2.1 ++ smB 8 p.2.2.1 ++ smB 8 p.2.2.2
theorem pxB_len (d : Nat) (p : Px) : (pxB d p).length ≤ 8 := by
  unfold pxB smB
  split
  · simp
  · split <;> simp
def pxAt (p : Px) (i : Nat) : Int := if i = 0 then p.1 else if i = 1 then p.2.1 else if i = 2 then p.2.2.1 else p.2.2.2
theorem pxC_at (p : Px) (i : Nat) (hi : i < 4) : (pxC p)[i]? = some (.int .i64 (pxAt p i)) := by
  match i, hi with
  | 0, _ => rfl
  | 1, _ => rfl
  | 2, _ => rfl
  | 3, _ => rfl

theorem idx4_0 (a b c q : Int) (w : World) : (Instr.index 59 (.agg #[.int .i64 a, .int .i64 b, .int .i64 c, .int .i64 q]) (.int .i64 0)).run Tryd.prog w = .ok (.int .i64 a) w := by kernel_rfl
theorem idx4_1 (a b c q : Int) (w : World) : (Instr.index 59 (.agg #[.int .i64 a, .int .i64 b, .int .i64 c, .int .i64 q]) (.int .i64 1)).run Tryd.prog w = .ok (.int .i64 b) w := by kernel_rfl
theorem idx4_2 (a b c q : Int) (w : World) : (Instr.index 59 (.agg #[.int .i64 a, .int .i64 b, .int .i64 c, .int .i64 q]) (.int .i64 2)).run Tryd.prog w = .ok (.int .i64 c) w := by kernel_rfl
theorem idx4_3 (a b c q : Int) (w : World) : (Instr.index 59 (.agg #[.int .i64 a, .int .i64 b, .int .i64 c, .int .i64 q]) (.int .i64 3)).run Tryd.prog w = .ok (.int .i64 q) w := by kernel_rfl
theorem idx4 (a b c q : Int) (i : Nat) (hi : i < 4) (w : World) : (Instr.index 59 (.agg #[.int .i64 a, .int .i64 b, .int .i64 c, .int .i64 q]) (.int .i64 (i : Int))).run Tryd.prog w = .ok (.int .i64 (pxAt (a, b, c, q) i)) w := by
  match i, hi with
  | 0, _ => exact idx4_0 a b c q w
  | 1, _ => exact idx4_1 a b c q w
  | 2, _ => exact idx4_2 a b c q w
  | 3, _ => exact idx4_3 a b c q w
theorem valP_at (p : Px) (h : valP p = true) (i : Nat) : ∃ n : Nat, pxAt p i = (n : Int) ∧ n ≤ 65535 := by
  unfold valP at h
  simp only [Bool.and_eq_true, beq_iff_eq] at h
  have k : ∀ x : Int, uI x = x → ∃ n : Nat, x = (n : Int) ∧ n ≤ 65535 := fun x hx => by
    have := uI_rng x
    rw [hx] at this
    exact ⟨x.toNat, by omega, by omega⟩
  unfold pxAt
  split
  · exact k _ h.1.1.1
  · split
    · exact k _ h.1.1.2
    · split
      · exact k _ h.1.2
      · exact k _ h.2
theorem two_cells (n : Nat) (h : n ≤ 65535) : [Value.int .u8 ((n : Int) / 256), Value.int .u8 ((n : Int) % 256)] = bcells [UInt8.ofNat (n / 256), UInt8.ofNat (n % 256)] := by
  simp only [bcells, List.map_cons, List.map_nil]
  rw [bcell_ofNat (n / 256) (by omega), bcell_ofNat (n % 256) (by omega)]; rfl
theorem one_cell (n : Nat) (h : n ≤ 255) : [Value.int .u8 (n : Int)] = bcells [UInt8.ofNat n] := by
  simp only [bcells, List.map_cons, List.map_nil]
  rw [bcell_ofNat n (by omega)]
theorem to8_nat (x : Int) : ∃ n : Nat, to8I x = (n : Int) ∧ n ≤ 255 := by
  have := to8I_rng x
  exact ⟨(to8I x).toNat, by omega, by omega⟩
theorem brow_put {w : World} {B k : Nat} {v : Value} {l : List UInt8} {t : TypeId} {cs : Array Value} (h : BRow w B 5 v l) (hb : Blk w k t cs) (ht : t ≠ 5) (i : Nat) (u : Value) : BRow (w.setCell ⟨k, i, none⟩ u) B 5 v l :=
  ((Fr.refl k [t] w).put hb (Nat.le_refl _) (by simp) i u).owns h (by simpa using fun e => ht e.symm)
/-- The bytes of the first values. -/
def vsB (d : Nat) (f : Nat → Int) (i : Nat) : List UInt8 := (List.range i).flatMap fun k => smB d (f k)
theorem vsB_succ (d : Nat) (f : Nat → Int) (i : Nat) : vsB d f (i + 1) = vsB d f i ++ smB d (f i) := by
  unfold vsB; rw [List.range_succ, List.flatMap_append]; simp
theorem vsB_len (d : Nat) (f : Nat → Int) (i : Nat) : (vsB d f i).length ≤ 2 * i := by
  induction i with
  | zero => simp [vsB]
  | succ i ih =>
    rw [vsB_succ, List.length_append]
    have : (smB d (f i)).length ≤ 2 := by unfold smB; split <;> simp
    omega

set_option maxHeartbeats 4000000 in
set_option maxRecDepth 100000 in
theorem appendPixel_any (v : Value) (l : List UInt8) (p : Px) (d B : Nat) (w : World) (ho : BRow w B 5 v l) (hB : B ≤ w.heap.size) (hl : l.length ≤ 100000000) (hd : d = 8 ∨ d = 16) (hp : valP p = true) :
    Calls Tryd.prog 17 #[v, .agg (pxC p), .int .i64 d] w fun e w' => ∃ v', e = .returned v' ∧ BRow w' B 5 v' (l ++ pxB d p) ∧ Below B w w' := by
  have HVA := Lib.hid (valP_at p hp)
  have HP16 : Hid (pxB 16 p = vsB 16 (pxAt p) 4) := rfl
  have HP8 : Hid (to8I p.2.2.2 ≠ 0 → pxB 8 p = vsB 8 (pxAt p) 4) := fun h => by unfold pxB; rw [if_neg (by decide), if_neg h]; rfl
  have HP0 : Hid (to8I p.2.2.2 = 0 → pxB 8 p = [0, 0, 0, 0]) := fun h => by unfold pxB; rw [if_neg (by decide), if_pos h]
  obtain ⟨a, b, c, q⟩ := p
  have HIX := Lib.hid (fun i hi w => idx4 a b c q i hi w)
  generalize pxAt (a, b, c, q) = f at *
  obtain ⟨x, cc, rfl⟩ := brow_shape ho
  have hmax : maxLen = 9223372036854775807 := rfl
  have HO : Hid (BRow ((w.alloc (.cells #[.int .i64 a, .int .i64 b, .int .i64 c, .int .i64 q] 36)).alloc (.cells #[.int .i64 a, .int .i64 b, .int .i64 c, .int .i64 q] 59)) B 5 (.slice x l.length cc) l) := World.ownsRow.alloc (World.ownsRow.alloc ho _) _
  have HBE := Lib.hid (((Below.refl B w).alloc hB (.cells #[.int .i64 a, .int .i64 b, .int .i64 c, .int .i64 q] 36)).alloc (by simp; omega) (.cells #[.int .i64 a, .int .i64 b, .int .i64 c, .int .i64 q] 59))
  have HK1 : Hid (Blk ((w.alloc (.cells #[.int .i64 a, .int .i64 b, .int .i64 c, .int .i64 q] 36)).alloc (.cells #[.int .i64 a, .int .i64 b, .int .i64 c, .int .i64 q] 59)) w.heap.size 36 (pxC (a, b, c, q))) := (Blk.new w _ _).alloc _
  have HK2 : Hid (Blk ((w.alloc (.cells #[.int .i64 a, .int .i64 b, .int .i64 c, .int .i64 q] 36)).alloc (.cells #[.int .i64 a, .int .i64 b, .int .i64 c, .int .i64 q] 59)) (w.heap.size + 1) 59 (pxC (a, b, c, q))) := Blk.new_at (by simp) _ _
  clear ho hp
  unfold pxC
  simp only
  by_cases h16 : d = 16
  · have e16 : ((d : Int) == 16) = true := by rw [h16]; rfl
    have H16 := Lib.hid h16
    clear h16 hd HP8 HP0
    go_enter Tryd.func17, Tryd.ntmps17
    go_wp2_with fail
    generalize (w.alloc (.cells #[.int .i64 a, .int .i64 b, .int .i64 c, .int .i64 q] 36)).alloc (.cells #[.int .i64 a, .int .i64 b, .int .i64 c, .int .i64 q] 59) = wz at *
    generalize hK : w.heap.size = K at *
    have HK := Lib.hid hK
    clear hK
    go_loopw [0, 24] (fun v0 vi wr => ∃ i : Nat, vi = .int .i64 i ∧ i ≤ 4 ∧ BRow wr B 5 v0 (l ++ vsB 16 f i) ∧ Hid (Below B w wr) ∧ B ≤ wr.heap.size) (fun _ vi _ => 4 - (intOf vi).toNat)
    case atStart => exact ⟨0, rfl, by decide, by simpa [vsB] using HO.out, HBE.out, by have := HK2.out.lt; omega⟩
    case round =>
      obtain ⟨i, rfl, hi, hrow, hbw, hszr⟩ := hrel
      obtain ⟨acc, hacc⟩ : ∃ acc, acc = l ++ vsB 16 f i := ⟨_, rfl⟩
      have hal : acc.length ≤ 100000008 := by rw [hacc, List.length_append]; have := vsB_len 16 f i; omega
      rw [← hacc] at hrow
      have HACC := Lib.hid hacc
      clear hacc
      obtain ⟨x2, c2, rfl⟩ := brow_shape hrow
      by_cases hlt : i < 4
      · have dlt : decide ((i : Int) < 4) = true := by simp; omega
        have hix := HIX.out i hlt
        obtain ⟨n, hn, hn2⟩ := HVA.out i
        rw [hn] at hix
        have HSM : Hid (smB 16 (f i) = [UInt8.ofNat (n / 256), UInt8.ofNat (n % 256)]) := by show _ = _; rw [hn]; rfl
        clear hn
        go_upto_region 6 with fail
        clear hix
        go_wp2_with (at_builtin; refine wpList_app el_u8 hrow hszr rfl rfl rfl (m := 1) rfl (by simp [Value.oneCell']) rfl (by omega) (by unfold maxLen; omega) ?_)
        intro r2 cap2 w4 ho2 hg2 _
        have hown2 := brow_more ho2 [UInt8.ofNat (n / 256), UInt8.ofNat (n % 256)] (by rw [two_cells n hn2]) rfl
        obtain ⟨hbel2, hsz2⟩ := below_app hbw.out hszr hrow hg2
        clear ho2 hg2 hrow
        go_wp2_with fail
        go_roundw
        case rel =>
          refine ⟨i + 1, by go_num, by omega, ?_, hbel2, hsz2⟩
          rw [vsB_succ, ← List.append_assoc, ← HACC.out, HSM.out]
          exact hown2
        case measure => simp [intOf]; omega
      · have dlt : decide ((i : Int) < 4) = false := by simp; omega
        have hie : i = 4 := by omega
        subst hie
        go_wp2_with fail
        go_ret
        refine ⟨_, rfl, ?_, hbw.out⟩
        rw [H16.out, HP16.out, ← HACC.out]; exact hrow
  · have e16 : ((d : Int) == 16) = false := by simp; omega
    have H8 : Hid (d = 8) := by rcases hd with h | h; exact h; exact absurd h h16
    have HTO := Lib.hid (fun x w => pto8_any x w)
    obtain ⟨tq, htq⟩ : ∃ tq, tq = to8I q := ⟨_, rfl⟩
    have HTQ := Lib.hid (fun w => pto8_any q w)
    rw [← htq] at HTQ
    have HP8' : Hid (tq ≠ 0 → pxB 8 (a, b, c, q) = vsB 8 f 4) := fun h => HP8.out (by rw [htq] at h; exact h)
    have HP0' : Hid (tq = 0 → pxB 8 (a, b, c, q) = [0, 0, 0, 0]) := fun h => HP0.out (by rw [htq] at h; exact h)
    clear h16 hd HP8 HP0 HP16 htq
    go_enter Tryd.func17, Tryd.ntmps17
    go_wp2_with fail
    generalize (w.alloc (.cells #[.int .i64 a, .int .i64 b, .int .i64 c, .int .i64 q] 36)).alloc (.cells #[.int .i64 a, .int .i64 b, .int .i64 c, .int .i64 q] 59) = wz at *
    generalize hK : w.heap.size = K at *
    have HK := Lib.hid hK
    clear hK
    refine (HTQ.out _).mono ?_
    rintro e w1 ⟨rfl, rfl⟩
    by_cases hq0 : tq = 0
    · have eq0 : (tq == 0) = true := by rw [hq0]; rfl
      have HPX := Lib.hid (HP0'.out hq0)
      clear hq0
      have HIX0 : Hid (∀ i : Nat, i < 4 → ∀ w, (Instr.index 59 (.agg #[.int .i64 0, .int .i64 0, .int .i64 0, .int .i64 0]) (.int .i64 (i : Int))).run Tryd.prog w = .ok (.int .i64 (pxAt (0, 0, 0, 0) i)) w) := fun i hi w => idx4 0 0 0 0 i hi w
      have HPX0 : Hid (pxB 8 (a, b, c, q) = vsB 8 (pxAt (0, 0, 0, 0)) 4) := by show _ = _; rw [HPX.out]; decide +kernel
      generalize pxAt (0, 0, 0, 0) = f0 at *
      have HPX := HPX0
      have y0 : wz.cell? ⟨K + 1, 0, none⟩ = some (.int .i64 a) := HK2.out.cell 0
      have y1 : wz.cell? ⟨K + 1, 1, none⟩ = some (.int .i64 b) := HK2.out.cell 1
      have y2 : wz.cell? ⟨K + 1, 2, none⟩ = some (.int .i64 c) := HK2.out.cell 2
      have y3 : wz.cell? ⟨K + 1, 3, none⟩ = some (.int .i64 q) := HK2.out.cell 3
      have z0 := HK2.out.frozen 0
      have z1 := HK2.out.frozen 1
      have z2 := HK2.out.frozen 2
      have z3 := HK2.out.frozen 3
      have HO4 : Hid (BRow ((((wz.setCell ⟨K + 1, 0, none⟩ (.int .i64 0)).setCell ⟨K + 1, 1, none⟩ (.int .i64 0)).setCell ⟨K + 1, 2, none⟩ (.int .i64 0)).setCell ⟨K + 1, 3, none⟩ (.int .i64 0)) B 5 (.slice x l.length cc) l) := brow_put (brow_put (brow_put (brow_put HO.out HK2.out (by decide) 0 _) (HK2.out.put 0 _) (by decide) 1 _) ((HK2.out.put 0 _).put 1 _) (by decide) 2 _) (((HK2.out.put 0 _).put 1 _).put 2 _) (by decide) 3 _
      have HBE4 : Hid (Below B w ((((wz.setCell ⟨K + 1, 0, none⟩ (.int .i64 0)).setCell ⟨K + 1, 1, none⟩ (.int .i64 0)).setCell ⟨K + 1, 2, none⟩ (.int .i64 0)).setCell ⟨K + 1, 3, none⟩ (.int .i64 0))) := below_put (below_put (below_put (below_put HBE.out (p := ⟨K + 1, 0, none⟩) (by show B ≤ K + 1; omega) _) (p := ⟨K + 1, 1, none⟩) (by show B ≤ K + 1; omega) _) (p := ⟨K + 1, 2, none⟩) (by show B ≤ K + 1; omega) _) (p := ⟨K + 1, 3, none⟩) (by show B ≤ K + 1; omega) _
      have HSZ4 : Hid (B ≤ ((((wz.setCell ⟨K + 1, 0, none⟩ (.int .i64 0)).setCell ⟨K + 1, 1, none⟩ (.int .i64 0)).setCell ⟨K + 1, 2, none⟩ (.int .i64 0)).setCell ⟨K + 1, 3, none⟩ (.int .i64 0)).heap.size) := by have := HK2.out.lt; show _ ≤ _; simp [World.setCell]; omega
      go_wp2_with fail
      clear y0 y1 y2 y3 z0 z1 z2 z3
      generalize ((((wz.setCell ⟨K + 1, 0, none⟩ (.int .i64 0)).setCell ⟨K + 1, 1, none⟩ (.int .i64 0)).setCell ⟨K + 1, 2, none⟩ (.int .i64 0)).setCell ⟨K + 1, 3, none⟩ (.int .i64 0)) = w5 at *
      go_loopw [0, 43] (fun v0 vi wr => ∃ i : Nat, vi = .int .i64 i ∧ i ≤ 4 ∧ BRow wr B 5 v0 (l ++ vsB 8 f0 i) ∧ Hid (Below B w wr) ∧ B ≤ wr.heap.size) (fun _ vi _ => 4 - (intOf vi).toNat)
      case atStart => exact ⟨0, rfl, by decide, by simpa [vsB] using HO4.out, HBE4.out, HSZ4.out⟩
      case round =>
        obtain ⟨i, rfl, hi, hrow, hbw, hszr⟩ := hrel
        obtain ⟨acc, hacc⟩ : ∃ acc, acc = l ++ vsB 8 f0 i := ⟨_, rfl⟩
        have hal : acc.length ≤ 100000008 := by rw [hacc, List.length_append]; have := vsB_len 8 f0 i; omega
        rw [← hacc] at hrow
        have HACC := Lib.hid hacc
        clear hacc
        obtain ⟨x2, c2, rfl⟩ := brow_shape hrow
        by_cases hlt : i < 4
        · have dlt : decide ((i : Int) < 4) = true := by simp; omega
          have hix := HIX0.out i hlt
          obtain ⟨n, hn, hn2⟩ := to8_nat (f0 i)
          have HTI := Lib.hid (fun w => pto8_any (f0 i) w)
          rw [hn] at HTI
          have HSM : Hid (smB 8 (f0 i) = [UInt8.ofNat n]) := by show _ = _; unfold smB; rw [if_neg (by decide), hn]; rfl
          clear hn
          obtain ⟨fi, hfi⟩ : ∃ fi, f0 i = fi := ⟨_, rfl⟩
          rw [hfi] at hix HTI
          clear hfi
          go_wp2_with fail
          refine (HTI.out _).mono ?_
          rintro e w1 ⟨rfl, rfl⟩
          clear hix
          go_wp2_with (at_builtin; refine wpList_app el_u8 hrow hszr rfl rfl rfl (m := 0) rfl (by simp [Value.oneCell']) rfl (by omega) (by unfold maxLen; omega) ?_)
          intro r2 cap2 w4 ho2 hg2 _
          have hown2 := brow_more ho2 [UInt8.ofNat n] (by rw [one_cell n hn2]) rfl
          obtain ⟨hbel2, hsz2⟩ := below_app hbw.out hszr hrow hg2
          clear ho2 hg2 hrow
          go_wp2_with fail
          go_roundw
          case rel =>
            refine ⟨i + 1, by go_num, by omega, ?_, hbel2, hsz2⟩
            rw [vsB_succ, ← List.append_assoc, ← HACC.out, HSM.out]
            exact hown2
          case measure => simp [intOf]; omega
        · have dlt : decide ((i : Int) < 4) = false := by simp; omega
          have hie : i = 4 := by omega
          subst hie
          go_wp2_with fail
          go_ret
          refine ⟨_, rfl, ?_, hbw.out⟩
          rw [H8.out, HPX.out, ← HACC.out]; exact hrow
    · have eq0 : (tq == 0) = false := by simpa using hq0
      have HPX := Lib.hid (HP8'.out hq0)
      clear hq0
      have y0 : wz.cell? ⟨K + 1, 0, none⟩ = some (.int .i64 a) := HK2.out.cell 0
      have y1 : wz.cell? ⟨K + 1, 1, none⟩ = some (.int .i64 b) := HK2.out.cell 1
      have y2 : wz.cell? ⟨K + 1, 2, none⟩ = some (.int .i64 c) := HK2.out.cell 2
      have y3 : wz.cell? ⟨K + 1, 3, none⟩ = some (.int .i64 q) := HK2.out.cell 3
      go_wp2_with fail
      clear y0 y1 y2 y3
      go_loopw [0, 43] (fun v0 vi wr => ∃ i : Nat, vi = .int .i64 i ∧ i ≤ 4 ∧ BRow wr B 5 v0 (l ++ vsB 8 f i) ∧ Hid (Below B w wr) ∧ B ≤ wr.heap.size) (fun _ vi _ => 4 - (intOf vi).toNat)
      case atStart => exact ⟨0, rfl, by decide, by simpa [vsB] using HO.out, HBE.out, by have := HK2.out.lt; omega⟩
      case round =>
        obtain ⟨i, rfl, hi, hrow, hbw, hszr⟩ := hrel
        obtain ⟨acc, hacc⟩ : ∃ acc, acc = l ++ vsB 8 f i := ⟨_, rfl⟩
        have hal : acc.length ≤ 100000008 := by rw [hacc, List.length_append]; have := vsB_len 8 f i; omega
        rw [← hacc] at hrow
        have HACC := Lib.hid hacc
        clear hacc
        obtain ⟨x2, c2, rfl⟩ := brow_shape hrow
        by_cases hlt : i < 4
        · have dlt : decide ((i : Int) < 4) = true := by simp; omega
          have hix := HIX.out i hlt
          obtain ⟨n, hn, hn2⟩ := to8_nat (f i)
          have HTI := Lib.hid (fun w => pto8_any (f i) w)
          rw [hn] at HTI
          have HSM : Hid (smB 8 (f i) = [UInt8.ofNat n]) := by show _ = _; unfold smB; rw [if_neg (by decide), hn]; rfl
          clear hn
          obtain ⟨fi, hfi⟩ : ∃ fi, f i = fi := ⟨_, rfl⟩
          rw [hfi] at hix HTI
          clear hfi
          go_wp2_with fail
          refine (HTI.out _).mono ?_
          rintro e w1 ⟨rfl, rfl⟩
          clear hix
          go_wp2_with (at_builtin; refine wpList_app el_u8 hrow hszr rfl rfl rfl (m := 0) rfl (by simp [Value.oneCell']) rfl (by omega) (by unfold maxLen; omega) ?_)
          intro r2 cap2 w4 ho2 hg2 _
          have hown2 := brow_more ho2 [UInt8.ofNat n] (by rw [one_cell n hn2]) rfl
          obtain ⟨hbel2, hsz2⟩ := below_app hbw.out hszr hrow hg2
          clear ho2 hg2 hrow
          go_wp2_with fail
          go_roundw
          case rel =>
            refine ⟨i + 1, by go_num, by omega, ?_, hbel2, hsz2⟩
            rw [vsB_succ, ← List.append_assoc, ← HACC.out, HSM.out]
            exact hown2
          case measure => simp [intOf]; omega
        · have dlt : decide ((i : Int) < 4) = false := by simp; omega
          have hie : i = 4 := by omega
          subst hie
          go_wp2_with fail
          go_ret
          refine ⟨_, rfl, ?_, hbw.out⟩
          rw [H8.out, HPX.out, ← HACC.out]; exact hrow
end Go.Proofs.YtakkdgcmeeilbaaDoor
