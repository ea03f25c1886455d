/-
  The program of tiff: appendPixel.
-/
import Derived.Test.YtakileiomgaahaaTi2
namespace Go.Proofs.Ytakileiomgaahaa
open Go.RowKit

/-- The bytes of a value. -/
def smT (d : Nat) (v : Int) : List UInt8 := if d = 16 then litB v.toNat 2 else [UInt8.ofNat (to8I v).toNat]
/-- The bytes of a pixel. -/
def pxT (d : Nat) (p : Px) : List UInt8 :=
  if d = 16 then smT 16 p.1 ++ smT 16 p.2.1 ++ smT 16 p.2.2.1 ++ smT 16 p.2.2.2
  else if to8I p.2.2.2 = 0 then [0, 0, 0, 0] else smT 8 p.1 ++ smT 8 p.2.1 ++ smT 8 p.2.2.1 ++ smT 8 p.2.2.2
theorem smT_len (d : Nat) (v : Int) : (smT d v).length ≤ 2 := by unfold smT; split <;> simp [litB_len]
/-- The bytes of the first values. -/
def vsT (d : Nat) (f : Nat → Int) (i : Nat) : List UInt8 := (List.range i).flatMap fun k => smT d (f k)
theorem vsT_succ (d : Nat) (f : Nat → Int) (i : Nat) : vsT d f (i + 1) = vsT d f i ++ smT d (f i) := by
  unfold vsT; rw [List.range_succ, List.flatMap_append]; simp
theorem vsT_len (d : Nat) (f : Nat → Int) (i : Nat) : (vsT d f i).length ≤ 2 * i := by
  induction i with
  | zero => simp [vsT]
  | succ i ih =>
    rw [vsT_succ, List.length_append]
    have := smT_len d (f i)
    omega

set_option maxHeartbeats 4000000 in
set_option maxRecDepth 100000 in
theorem tappendPixel_any (v : Value) (l : List UInt8) (p : Px) (d B : Nat) (w : World) (ho : BRow w B 5 v l) (hB : B ≤ w.heap.size) (hl : l.length ≤ 100000000) (hd : d = 8 ∨ d = 16) (hp : valP p = true) :
    Calls Try.prog 85 #[v, .agg (pxC p), .int .i64 d] w fun e w' => ∃ v', e = .returned v' ∧ BRow w' B 5 v' (l ++ pxT d p) ∧ Below B w w' := by
  have HVA := Lib.hid (valP_at p hp)
  have HP16 : Hid (pxT 16 p = vsT 16 (pxAt p) 4) := rfl
  have HP8 : Hid (to8I p.2.2.2 ≠ 0 → pxT 8 p = vsT 8 (pxAt p) 4) := fun h => by unfold pxT; rw [if_neg (by decide), if_neg h]; rfl
  have HP0 : Hid (to8I p.2.2.2 = 0 → pxT 8 p = [0, 0, 0, 0]) := fun h => by unfold pxT; rw [if_neg (by decide), if_pos h]
  obtain ⟨a, b, c, q⟩ := p
  have HIX := Lib.hid (fun i hi w => idx4 a b c q i hi w)
  generalize pxAt (a, b, c, q) = f at *
  obtain ⟨x, cc, rfl⟩ := brow_shape ho
  have hmax : maxLen = 9223372036854775807 := rfl
  have HO : Hid (BRow ((w.alloc (.cells #[.int .i64 a, .int .i64 b, .int .i64 c, .int .i64 q] 46)).alloc (.cells #[.int .i64 a, .int .i64 b, .int .i64 c, .int .i64 q] 112)) B 5 (.slice x l.length cc) l) := World.ownsRow.alloc (World.ownsRow.alloc ho _) _
  have HBE := Lib.hid (((Below.refl B w).alloc hB (.cells #[.int .i64 a, .int .i64 b, .int .i64 c, .int .i64 q] 46)).alloc (by simp; omega) (.cells #[.int .i64 a, .int .i64 b, .int .i64 c, .int .i64 q] 112))
  have HK1 : Hid (Blk ((w.alloc (.cells #[.int .i64 a, .int .i64 b, .int .i64 c, .int .i64 q] 46)).alloc (.cells #[.int .i64 a, .int .i64 b, .int .i64 c, .int .i64 q] 112)) w.heap.size 46 (pxC (a, b, c, q))) := (Blk.new w _ _).alloc _
  have HK2 : Hid (Blk ((w.alloc (.cells #[.int .i64 a, .int .i64 b, .int .i64 c, .int .i64 q] 46)).alloc (.cells #[.int .i64 a, .int .i64 b, .int .i64 c, .int .i64 q] 112)) (w.heap.size + 1) 112 (pxC (a, b, c, q))) := Blk.new_at (by simp) _ _
  clear ho hp
  unfold pxC
  simp only
  by_cases h16 : d = 16
  · have e16 : ((d : Int) == 16) = true := by rw [h16]; rfl
    have H16 := Lib.hid h16
    clear h16 hd HP8 HP0
    go_enter Try.func85, Try.ntmps85
    go_wp2_with fail
    generalize (w.alloc (.cells #[.int .i64 a, .int .i64 b, .int .i64 c, .int .i64 q] 46)).alloc (.cells #[.int .i64 a, .int .i64 b, .int .i64 c, .int .i64 q] 112) = wz at *
    generalize hK : w.heap.size = K at *
    have HK := Lib.hid hK
    clear hK
    go_loopw [0, 24] (fun v0 vi wr => ∃ i : Nat, vi = .int .i64 i ∧ i ≤ 4 ∧ BRow wr B 5 v0 (l ++ vsT 16 f i) ∧ Hid (Below B w wr) ∧ B ≤ wr.heap.size) (fun _ vi _ => 4 - (intOf vi).toNat)
    case atStart => exact ⟨0, rfl, by decide, by simpa [vsT] using HO.out, HBE.out, by have := HK2.out.lt; omega⟩
    case round =>
      obtain ⟨i, rfl, hi, hrow, hbw, hszr⟩ := hrel
      obtain ⟨acc, hacc⟩ : ∃ acc, acc = l ++ vsT 16 f i := ⟨_, rfl⟩
      have hal : acc.length ≤ 100000008 := by rw [hacc, List.length_append]; have := vsT_len 16 f i; omega
      rw [← hacc] at hrow
      have HACC := Lib.hid hacc
      clear hacc
      obtain ⟨x2, c2, rfl⟩ := brow_shape hrow
      by_cases hlt : i < 4
      · have dlt : decide ((i : Int) < 4) = true := by simp; omega
        have hix := HIX.out i hlt
        obtain ⟨n, hn, hn2⟩ := HVA.out i
        rw [hn] at hix
        have HSM : Hid (smT 16 (f i) = litB n 2) := by show _ = _; rw [hn]; rfl
        clear hn
        have HAP := Lib.hid (fun w x h1 h2 => appendNumber_any x acc n 2 B w h1 h2 (by omega) (by omega) (by omega))
        go_wp2_with fail
        refine (HAP.out _ _ hrow hszr).mono ?_
        rintro e w4 ⟨x4, rfl, hr4, hb4⟩
        have HR4 : Hid (BRow w4 B 5 x4 (l ++ vsT 16 f (i + 1))) := by show BRow _ _ _ _ _; rw [vsT_succ, ← List.append_assoc, ← HACC.out, HSM.out]; exact hr4
        have hbel2 : Below B w w4 := hbw.out.trans hb4
        have hsz2 : B ≤ w4.heap.size := Nat.le_trans hszr hb4.size
        clear hix hr4 hb4 hrow
        go_wp2_with fail
        go_roundw
        case rel => exact ⟨i + 1, by go_num, by omega, HR4.out, hbel2, hsz2⟩
        case measure => simp [intOf]; omega
      · have dlt : decide ((i : Int) < 4) = false := by simp; omega
        have hie : i = 4 := by omega
        subst hie
        go_wp2_with fail
        go_ret
        refine ⟨_, rfl, ?_, hbw.out⟩
        rw [H16.out, HP16.out, ← HACC.out]; exact hrow
  · have e16 : ((d : Int) == 16) = false := by simp; omega
    have H8 : Hid (d = 8) := by rcases hd with h | h; exact h; exact absurd h h16
    have HTO := Lib.hid (fun x w => pto8_any x w)
    obtain ⟨tq, htq⟩ : ∃ tq, tq = to8I q := ⟨_, rfl⟩
    have HTQ := Lib.hid (fun w => pto8_any q w)
    rw [← htq] at HTQ
    have HP8' : Hid (tq ≠ 0 → pxT 8 (a, b, c, q) = vsT 8 f 4) := fun h => HP8.out (by rw [htq] at h; exact h)
    have HP0' : Hid (tq = 0 → pxT 8 (a, b, c, q) = [0, 0, 0, 0]) := fun h => HP0.out (by rw [htq] at h; exact h)
    clear h16 hd HP8 HP0 HP16 htq
    go_enter Try.func85, Try.ntmps85
    go_wp2_with fail
    generalize (w.alloc (.cells #[.int .i64 a, .int .i64 b, .int .i64 c, .int .i64 q] 46)).alloc (.cells #[.int .i64 a, .int .i64 b, .int .i64 c, .int .i64 q] 112) = wz at *
    generalize hK : w.heap.size = K at *
    have HK := Lib.hid hK
    clear hK
    refine (HTQ.out _).mono ?_
    rintro e w1 ⟨rfl, rfl⟩
    by_cases hq0 : tq = 0
    · have eq0 : (tq == 0) = true := by rw [hq0]; rfl
      have HPX := Lib.hid (HP0'.out hq0)
      clear hq0
      have HIX0 : Hid (∀ i : Nat, i < 4 → ∀ w, (Instr.index 112 (.agg #[.int .i64 0, .int .i64 0, .int .i64 0, .int .i64 0]) (.int .i64 (i : Int))).run Try.prog w = .ok (.int .i64 (pxAt (0, 0, 0, 0) i)) w) := fun i hi w => idx4 0 0 0 0 i hi w
      have HPX0 : Hid (pxT 8 (a, b, c, q) = vsT 8 (pxAt (0, 0, 0, 0)) 4) := by show _ = _; rw [HPX.out]; decide +kernel
      generalize pxAt (0, 0, 0, 0) = f0 at *
      have HPX := HPX0
      have y0 : wz.cell? ⟨K + 1, 0, none⟩ = some (.int .i64 a) := HK2.out.cell 0
      have y1 : wz.cell? ⟨K + 1, 1, none⟩ = some (.int .i64 b) := HK2.out.cell 1
      have y2 : wz.cell? ⟨K + 1, 2, none⟩ = some (.int .i64 c) := HK2.out.cell 2
      have y3 : wz.cell? ⟨K + 1, 3, none⟩ = some (.int .i64 q) := HK2.out.cell 3
      have z0 := HK2.out.frozen 0
      have z1 := HK2.out.frozen 1
      have z2 := HK2.out.frozen 2
      have z3 := HK2.out.frozen 3
      have HO4 : Hid (BRow ((((wz.setCell ⟨K + 1, 0, none⟩ (.int .i64 0)).setCell ⟨K + 1, 1, none⟩ (.int .i64 0)).setCell ⟨K + 1, 2, none⟩ (.int .i64 0)).setCell ⟨K + 1, 3, none⟩ (.int .i64 0)) B 5 (.slice x l.length cc) l) := brow_put (brow_put (brow_put (brow_put HO.out HK2.out (by decide) 0 _) (HK2.out.put 0 _) (by decide) 1 _) ((HK2.out.put 0 _).put 1 _) (by decide) 2 _) (((HK2.out.put 0 _).put 1 _).put 2 _) (by decide) 3 _
      have HBE4 : Hid (Below B w ((((wz.setCell ⟨K + 1, 0, none⟩ (.int .i64 0)).setCell ⟨K + 1, 1, none⟩ (.int .i64 0)).setCell ⟨K + 1, 2, none⟩ (.int .i64 0)).setCell ⟨K + 1, 3, none⟩ (.int .i64 0))) := below_put (below_put (below_put (below_put HBE.out (p := ⟨K + 1, 0, none⟩) (by show B ≤ K + 1; omega) _) (p := ⟨K + 1, 1, none⟩) (by show B ≤ K + 1; omega) _) (p := ⟨K + 1, 2, none⟩) (by show B ≤ K + 1; omega) _) (p := ⟨K + 1, 3, none⟩) (by show B ≤ K + 1; omega) _
      have HSZ4 : Hid (B ≤ ((((wz.setCell ⟨K + 1, 0, none⟩ (.int .i64 0)).setCell ⟨K + 1, 1, none⟩ (.int .i64 0)).setCell ⟨K + 1, 2, none⟩ (.int .i64 0)).setCell ⟨K + 1, 3, none⟩ (.int .i64 0)).heap.size) := by have := HK2.out.lt; show _ ≤ _; simp [World.setCell]; omega
      go_wp2_with fail
      clear y0 y1 y2 y3 z0 z1 z2 z3
      generalize ((((wz.setCell ⟨K + 1, 0, none⟩ (.int .i64 0)).setCell ⟨K + 1, 1, none⟩ (.int .i64 0)).setCell ⟨K + 1, 2, none⟩ (.int .i64 0)).setCell ⟨K + 1, 3, none⟩ (.int .i64 0)) = w5 at *
      go_loopw [0, 38] (fun v0 vi wr => ∃ i : Nat, vi = .int .i64 i ∧ i ≤ 4 ∧ BRow wr B 5 v0 (l ++ vsT 8 f0 i) ∧ Hid (Below B w wr) ∧ B ≤ wr.heap.size) (fun _ vi _ => 4 - (intOf vi).toNat)
      case atStart => exact ⟨0, rfl, by decide, by simpa [vsT] using HO4.out, HBE4.out, HSZ4.out⟩
      case round =>
        obtain ⟨i, rfl, hi, hrow, hbw, hszr⟩ := hrel
        obtain ⟨acc, hacc⟩ : ∃ acc, acc = l ++ vsT 8 f0 i := ⟨_, rfl⟩
        have hal : acc.length ≤ 100000008 := by rw [hacc, List.length_append]; have := vsT_len 8 f0 i; omega
        rw [← hacc] at hrow
        have HACC := Lib.hid hacc
        clear hacc
        obtain ⟨x2, c2, rfl⟩ := brow_shape hrow
        by_cases hlt : i < 4
        · have dlt : decide ((i : Int) < 4) = true := by simp; omega
          have hix := HIX0.out i hlt
          obtain ⟨n, hn, hn2⟩ := to8_nat (f0 i)
          have HTI := Lib.hid (fun w => pto8_any (f0 i) w)
          rw [hn] at HTI
          have HSM : Hid (smT 8 (f0 i) = [UInt8.ofNat n]) := by show _ = _; unfold smT; rw [if_neg (by decide), hn]; rfl
          clear hn
          obtain ⟨fi, hfi⟩ : ∃ fi, f0 i = fi := ⟨_, rfl⟩
          rw [hfi] at hix HTI
          clear hfi
          go_wp2_with fail
          refine (HTI.out _).mono ?_
          rintro e w1 ⟨rfl, rfl⟩
          clear hix
          go_wp2_with (at_builtin; refine wpList_app el_u8 hrow hszr rfl rfl rfl (m := 0) rfl (by simp [Value.oneCell']) rfl (by omega) (by unfold maxLen; omega) ?_)
          intro r2 cap2 w4 ho2 hg2 _
          have hown2 := brow_more ho2 [UInt8.ofNat n] (by rw [one_cell n hn2]) rfl
          obtain ⟨hbel2, hsz2⟩ := below_app hbw.out hszr hrow hg2
          clear ho2 hg2 hrow
          go_wp2_with fail
          go_roundw
          case rel =>
            refine ⟨i + 1, by go_num, by omega, ?_, hbel2, hsz2⟩
            rw [vsT_succ, ← List.append_assoc, ← HACC.out, HSM.out]
            exact hown2
          case measure => simp [intOf]; omega
        · have dlt : decide ((i : Int) < 4) = false := by simp; omega
          have hie : i = 4 := by omega
          subst hie
          go_wp2_with fail
          go_ret
          refine ⟨_, rfl, ?_, hbw.out⟩
          rw [H8.out, HPX.out, ← HACC.out]; exact hrow
    · have eq0 : (tq == 0) = false := by simpa using hq0
      have HPX := Lib.hid (HP8'.out hq0)
      clear hq0
      have y0 : wz.cell? ⟨K + 1, 0, none⟩ = some (.int .i64 a) := HK2.out.cell 0
      have y1 : wz.cell? ⟨K + 1, 1, none⟩ = some (.int .i64 b) := HK2.out.cell 1
      have y2 : wz.cell? ⟨K + 1, 2, none⟩ = some (.int .i64 c) := HK2.out.cell 2
      have y3 : wz.cell? ⟨K + 1, 3, none⟩ = some (.int .i64 q) := HK2.out.cell 3
      go_wp2_with fail
      clear y0 y1 y2 y3
      go_loopw [0, 38] (fun v0 vi wr => ∃ i : Nat, vi = .int .i64 i ∧ i ≤ 4 ∧ BRow wr B 5 v0 (l ++ vsT 8 f i) ∧ Hid (Below B w wr) ∧ B ≤ wr.heap.size) (fun _ vi _ => 4 - (intOf vi).toNat)
      case atStart => exact ⟨0, rfl, by decide, by simpa [vsT] using HO.out, HBE.out, by have := HK2.out.lt; omega⟩
      case round =>
        obtain ⟨i, rfl, hi, hrow, hbw, hszr⟩ := hrel
        obtain ⟨acc, hacc⟩ : ∃ acc, acc = l ++ vsT 8 f i := ⟨_, rfl⟩
        have hal : acc.length ≤ 100000008 := by rw [hacc, List.length_append]; have := vsT_len 8 f i; omega
        rw [← hacc] at hrow
        have HACC := Lib.hid hacc
        clear hacc
        obtain ⟨x2, c2, rfl⟩ := brow_shape hrow
        by_cases hlt : i < 4
        · have dlt : decide ((i : Int) < 4) = true := by simp; omega
          have hix := HIX.out i hlt
          obtain ⟨n, hn, hn2⟩ := to8_nat (f i)
          have HTI := Lib.hid (fun w => pto8_any (f i) w)
          rw [hn] at HTI
          have HSM : Hid (smT 8 (f i) = [UInt8.ofNat n]) := by show _ = _; unfold smT; rw [if_neg (by decide), hn]; rfl
          clear hn
          obtain ⟨fi, hfi⟩ : ∃ fi, f i = fi := ⟨_, rfl⟩
          rw [hfi] at hix HTI
          clear hfi
          go_wp2_with fail
          refine (HTI.out _).mono ?_
          rintro e w1 ⟨rfl, rfl⟩
          clear hix
          go_wp2_with (at_builtin; refine wpList_app el_u8 hrow hszr rfl rfl rfl (m := 0) rfl (by simp [Value.oneCell']) rfl (by omega) (by unfold maxLen; omega) ?_)
          intro r2 cap2 w4 ho2 hg2 _
          have hown2 := brow_more ho2 [UInt8.ofNat n] (by rw [one_cell n hn2]) rfl
          obtain ⟨hbel2, hsz2⟩ := below_app hbw.out hszr hrow hg2
          clear ho2 hg2 hrow
          go_wp2_with fail
          go_roundw
          case rel =>
            refine ⟨i + 1, by go_num, by omega, ?_, hbel2, hsz2⟩
            rw [vsT_succ, ← List.append_assoc, ← HACC.out, HSM.out]
            exact hown2
          case measure => simp [intOf]; omega
        · have dlt : decide ((i : Int) < 4) = false := by simp; omega
          have hie : i = 4 := by omega
          subst hie
          go_wp2_with fail
          go_ret
          refine ⟨_, rfl, ?_, hbw.out⟩
          rw [H8.out, HPX.out, ← HACC.out]; exact hrow
end Go.Proofs.Ytakileiomgaahaa
