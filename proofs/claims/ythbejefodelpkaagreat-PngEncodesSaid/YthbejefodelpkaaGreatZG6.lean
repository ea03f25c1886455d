/-
  Walks: png.Filter, png.Unfilter.
-/
import Derived.Test.YthbejefodelpkaaGreatZI
import Derived.Great.BuildSlice
import Derived.Deep.Cut
import Derived.Deep.CutBlock
import Derived.Deep.CutRange
import Derived.Deep.RegionWith
import Derived.Deep.RegionHeld3
import Derived.Deep.RegionLaw
namespace Go.Proofs.YthbejefodelpkaaGreat
open Go.RowKit
set_option maxRecDepth 100000

theorem el_b8 : Elem Tryz.prog 54 5 (.int .u8 0) 1 1 := by
  refine ⟨Tryz.underlying54, ?_, rfl, by decide⟩
  exact info_parts (by kernel_rfl)
/-- The first i bytes of l, behind them noughts. -/
def rowB (l : List UInt8) (i : Nat) : List UInt8 := l.take i ++ List.replicate (l.length - i) 0
theorem rowB_len (l : List UInt8) (i : Nat) (h : i ≤ l.length) : (rowB l i).length = l.length := by unfold rowB; simp; omega
theorem rowB_all (l : List UInt8) : rowB l l.length = l := by simp [rowB]
theorem rowB_next (l : List UInt8) (i : Nat) (h : i < l.length) : (rowB l i).set i l[i] = rowB l (i + 1) := by
  unfold rowB
  rw [List.set_append_right _ _ (by simp; omega), List.take_succ_eq_append_getElem h, List.append_assoc]
  congr 1
  rw [List.length_take, Nat.min_eq_left (by omega), Nat.sub_self, show l.length - i = (l.length - (i + 1)) + 1 by omega, List.replicate_succ, List.set_cons_zero]
  rfl
theorem rowB_zero (l : List UInt8) : (mkRow (.int .u8 0) l.length).toList = bcells (rowB l 0) := by
  unfold rowB mkRow bcells
  simp
theorem cell_rowB (l : List UInt8) (i j : Nat) (hj : j < i) (h : j < l.length) : (bcells (rowB l i))[j]? = some (.int .u8 (l[j].toNat : Int)) := by
  unfold bcells rowB
  rw [List.getElem?_map, List.getElem?_append_left (by rw [List.length_take]; omega), List.getElem?_take_of_lt hj, List.getElem?_eq_getElem h]
  rfl
theorem BRow.put {w : World} {B : Nat} {e : TypeId} {g c : Nat} {l : List UInt8} (h : BRow w B e (.slice (some ⟨g, 0, none⟩) l.length c) l) (i : Nat) (b : UInt8) :
    BRow (w.setCell ⟨g, i, none⟩ (.int .u8 (b.toNat : Int))) B e (.slice (some ⟨g, 0, none⟩) (l.set i b).length c) (l.set i b) := by
  have h1 := (World.ownsRow.stored h i (.int .u8 (b.toNat : Int))).1
  unfold BRow
  rw [List.length_set]
  have e : (bcells l).set i (.int .u8 (b.toNat : Int)) = bcells (l.set i b) := by unfold bcells; rw [List.map_set]
  rw [← e]
  exact h1

set_option maxHeartbeats 4000000 in
theorem filter_any (kind bpp : Int) (line above : ByteArray) (w : World) (hs : line.size ≤ 140737488355328) :
    Calls Tryz.prog 18 #[.int .i64 kind, .int .i64 bpp, .string line, .string above] w fun e w' =>
      e = .returned (.tuple #[.string (if fchk kind bpp line.data.toList above.data.toList = 0 then ⟨(filP kind bpp.toNat line.data.toList above.data.toList).toArray⟩ else ⟨#[]⟩), .int .i64 (fchk kind bpp line.data.toList above.data.toList : Nat)]) ∧ Below w.heap.size w w' := by
  have HCK := Lib.hid (fun w => gcheck_any kind bpp line above w)
  by_cases h0 : fchk kind bpp line.data.toList above.data.toList = 0
  · have hb : 1 ≤ bpp ∧ bpp ≤ 8 := by
      unfold fchk at h0
      split at h0; · cases h0
      split at h0; · cases h0
      omega
    rw [if_pos h0, h0]
    rw [h0] at HCK
    obtain ⟨b, rfl⟩ : ∃ b : Nat, bpp = b := ⟨bpp.toNat, by omega⟩
    rw [Int.toNat_natCast]
    obtain ⟨FL, hFL⟩ : ∃ l, filP kind b line.data.toList above.data.toList = l := ⟨_, rfl⟩
    have hfl : FL.length = line.size := by rw [← hFL, filP_len]; simp
    have HFG : Hid (∀ i (h : i < FL.length), FL[i] = filB kind b line.data.toList above.data.toList i) := by
      intro i h
      subst hFL
      simp [filP]
    rw [hFL]
    have HFL := Lib.hid hfl
    have hmk := run_mk el_b8 rfl line.size (by omega) (by omega)
    have HR0 : Hid (BRow (w.alloc (.cells (mkRow (.int .u8 0) line.size) 5)) w.heap.size 5 (.slice (some ⟨w.heap.size, 0, none⟩) (rowB FL 0).length line.size) (rowB FL 0)) := by
      have h1 := World.ownsRow_lit (e := 5) (size := 1) (base := w.heap.size) w (mkRow (.int .u8 0) line.size) line.size (Nat.le_refl _) (by unfold maxLen; omega) (by rw [mkRow_size]; omega)
      show World.ownsRow _ _ _ _ _ _ _
      rw [rowB_len FL 0 (Nat.zero_le _), hfl]
      rw [← hfl] at h1 ⊢
      rw [rowB_zero FL] at h1
      exact h1
    have HB0 : Hid (Below w.heap.size w (w.alloc (.cells (mkRow (.int .u8 0) line.size) 5))) := (Below.refl _ _).alloc (Nat.le_refl _) _
    clear h0 hFL hfl
    go_enter Tryz.func18, Tryz.ntmps18
    go_wp2_with fail
    refine (HCK.out _).mono ?_
    rintro e w1 ⟨rfl, rfl⟩
    clear HCK
    go_wp2_with fail
    clear hmk
    generalize w.alloc (.cells (mkRow (.int .u8 0) line.size) 5) = w0 at *
    obtain ⟨G, hG⟩ : ∃ G, G = w.heap.size := ⟨_, rfl⟩
    have HG := Lib.hid hG
    rw [← hG] at HR0 HB0 ⊢
    clear hG
    go_loopw [27] (fun vi wr => ∃ i : Nat, vi = .int .i64 i ∧ i ≤ line.size ∧ Hid (BRow wr G 5 (.slice (some ⟨G, 0, none⟩) (rowB FL i).length line.size) (rowB FL i)) ∧ Hid (Below G w wr)) (fun vi _ => line.size - (intOf vi).toNat)
    case atStart => exact ⟨0, rfl, Nat.zero_le _, HR0.out, HB0.out⟩
    case round =>
      obtain ⟨i, rfl, hi, hro, hbw⟩ := hrel
      by_cases hlt : i < line.size
      · have hd : decide ((i : Int) < (line.size : Int)) = true := by simp; omega
        obtain ⟨av, hav⟩ : ∃ n, atP line.data.toList ((i : Int) - b) = n := ⟨_, rfl⟩
        obtain ⟨bv, hbv⟩ : ∃ n, atP above.data.toList i = n := ⟨_, rfl⟩
        obtain ⟨cv, hcv⟩ : ∃ n, atP above.data.toList ((i : Int) - b) = n := ⟨_, rfl⟩
        obtain ⟨lb, hlb⟩ : ∃ x, line[i] = x := ⟨_, rfl⟩
        obtain ⟨D, hD⟩ : ∃ D, (i : Int) - b = D := ⟨_, rfl⟩
        have hav2 : av < 256 := by rw [← hav]; exact atP_lt _ _
        have hbv2 : bv < 256 := by rw [← hbv]; exact atP_lt _ _
        have hcv2 : cv < 256 := by rw [← hcv]; exact atP_lt _ _
        have HB1 := Lib.hid (fun w => gbyteAt_any above i w)
        have HB2 := Lib.hid (fun w => gbyteAt_any above D w)
        have HPR := Lib.hid (fun w => gpre_any kind av bv cv (by omega) (by omega) (by omega) w)
        rw [hbv] at HB1
        have hcvD : atP above.data.toList D = cv := by rw [← hD]; exact hcv
        rw [hcvD] at HB2
        obtain ⟨pr, hpr⟩ : ∃ n, prN kind b line.data.toList above.data.toList i = n := ⟨_, rfl⟩
        have hprl : pr < 256 := by rw [← hpr]; exact prN_lt _ _ _ _ _
        have hpi : preP kind av bv cv = (pr : Int) := by
          have h := preP_b kind av bv cv (by omega) (by omega) (by omega)
          rw [← hpr]; unfold prN; rw [hav, hbv, hcv]; omega
        rw [hpi] at HPR
        have hll := lb.toNat_lt
        obtain ⟨fb, hfb⟩ : ∃ x, filB kind b line.data.toList above.data.toList i = x := ⟨_, rfl⟩
        have hfn : IntKind.u8.wrap ((lb.toNat : Int) - (pr : Int)) = (fb.toNat : Int) := by
          have e : line.data.toList.getD i 0 = lb := by
            rw [List.getD_eq_getElem?_getD, List.getElem?_eq_getElem (by simpa using hlt), ← hlb]; rfl
          rw [← hfb]
          unfold filB
          rw [e, hpr, UInt8.toNat_ofNat', IntKind.wrap_u8]
          omega
        have HFB : Hid (FL[i]'(by rw [HFL.out]; exact hlt) = fb) := by show _ = _; rw [HFG.out, hfb]
        have hpw : IntKind.u8.wrap (pr : Int) = (pr : Int) := by rw [IntKind.wrap_u8]; omega
        have hrl : (rowB FL i).length = line.size := by rw [rowB_len FL i (by rw [HFL.out]; exact hi), HFL.out]
        have HRL := Lib.hid hrl
        have HAV : Hid (atP line.data.toList D = av) := by show _ = _; rw [← hD]; exact hav
        obtain ⟨K0, hK0⟩ : ∃ K0, K0 = wr.heap.size := ⟨_, rfl⟩
        have HBU : Hid (∀ u : BW K0 wr, Below wr.heap.size wr u.w) := fun u => u.b.mono (by omega)
        have hDw : IntKind.i64.wrap ((i : Int) - (b : Int)) = D := by rw [IntKind.wrap_i64, ← hD]; omega
        have hDw2 : wrap64 ((i : Int) - (b : Int)) = D := by unfold wrap64; omega
        clear hav hbv hcv hcvD hpr hpi hfb hrl hK0
        by_cases hib : b ≤ i
        all_goals first
          | (have hib9 : b ≤ i := hib
             have dib : decide ((b : Int) ≤ (i : Int)) = true := by simp; omega
             obtain ⟨j, hj⟩ : ∃ j : Nat, D = j := ⟨i - b, by omega⟩
             subst hj
             have hjl : j < line.size := by omega
             obtain ⟨cb, hcb⟩ : ∃ x, line[j] = x := ⟨_, rfl⟩
             have HAC : Hid (cb.toNat = av) := by
               show _ = _
               rw [← HAV.out]
               unfold atP
               rw [if_neg (by omega), Int.toNat_natCast, List.getElem?_eq_getElem (by simpa using hjl), ← hcb]; rfl
             go_upto_region 11 with fail
             rw [show wrap64 (cb.toNat : Int) = (av : Int) by rw [wrap64_byte', HAC.out]])
          | (have dib : decide ((b : Int) ≤ (i : Int)) = false := by simp; omega
             have hav0 : (av : Int) = 0 := by
               rw [← HAV.out]; unfold atP; rw [if_pos (by omega)]; rfl
             rw [hav0] at HPR
             go_upto_region 11 with fail)
        all_goals
          refine wp_region_bw_tail K0 wr 19 (Below.refl _ _) (by kernel_rfl) (by kernel_rfl) ?_
          simp only [List.take_succ_cons, List.take_zero, List.drop_succ_cons, List.drop_zero]
          repeat (go_big_quiet_step (first | (go_at_call_of 43 (Value.int .i64 (i : Int)); exact calls_bw_same (HB1.out _)) | (go_at_call 43; exact calls_bw_same (HB2.out _)) | (go_at_call 42; exact calls_bw_same (HPR.out _))))
          refine wpQuiet_nil ?_
          rintro _ ⟨v9, rfl⟩
          have HB5 := Lib.hid (HBU.out v9)
          generalize v9.w = w5 at *
          have hro5 : BRow w5 G 5 (.slice (some ⟨G, 0, none⟩) (rowB FL i).length line.size) (rowB FL i) := (Fr.of_below (B := 0) HB5.out []).owns hro.out (by simp)
          have HP5 := Lib.hid (hro5.put i fb)
          have hro6 := hro5
          unfold BRow at hro6
          rw [HRL.out] at hro6
          obtain ⟨u0, t0⟩ : ∃ u0, w5.cell? ⟨G, i, none⟩ = some u0 := by
            rw [World.ownsRow.cellAt hro6 _ (by omega)]
            exact ⟨_, List.getElem?_eq_getElem (by rw [bcells_length, HRL.out]; exact hlt)⟩
          have f0 := World.ownsRow.frozenAt hro6 i
          have HNX : Hid (BRow (w5.setCell ⟨G, i, none⟩ (.int .u8 (fb.toNat : Int))) G 5 (.slice (some ⟨G, 0, none⟩) (rowB FL (i + 1)).length line.size) (rowB FL (i + 1))) := by
            have h := HP5.out
            rw [← HFB.out, rowB_next FL i (by rw [HFL.out]; exact hlt)] at h
            rw [← HFB.out]
            exact h
          have HBN : Hid (Below G w (w5.setCell ⟨G, i, none⟩ (.int .u8 (fb.toNat : Int)))) := (hbw.out.trans (HB5.out.mono (by rw [HG.out]; exact hbw.out.size))).setCell (Nat.le_refl _) _
          clear hro6 hro5 HP5 HB5 hbw hro HBU
          go_wp2_with fail
          go_roundw
          case rel => exact ⟨i + 1, by go_num, by omega, HNX, HBN⟩
          case measure => simp [intOf]; omega
      · have hd : decide ((i : Int) < (line.size : Int)) = false := by simp; omega
        have hil : i = line.size := by omega
        have hcv : ∀ w', wr = w' → (convert 54 9 (.slice (some ⟨G, 0, none⟩) line.size line.size)).run Tryz.prog wr = .ok (.string ⟨FL.toArray⟩) wr := by
          intro _ _
          have h := hro.out
          rw [hil, ← HFL.out, rowB_all] at h
          have h2 := run_str_of Tryz.underlying54 Tryz.underlying5 Tryz.underlying9 h
          rw [HFL.out] at h2
          exact h2
        have hcv := hcv wr rfl
        clear hro
        go_wp2_with fail
        go_ret2
        exact ⟨rfl, by rw [← HG.out]; exact hbw.out⟩
  · rw [if_neg h0]
    obtain ⟨z, hz⟩ : ∃ z, fchk kind bpp line.data.toList above.data.toList = z := ⟨_, rfl⟩
    rw [hz] at HCK h0 ⊢
    have hz0 : ((z : Int) != 0) = true := by simp; omega
    clear hz h0
    go_enter Tryz.func18, Tryz.ntmps18
    go_wp2_with fail
    refine (HCK.out _).mono ?_
    rintro e w1 ⟨rfl, rfl⟩
    go_wp2_with fail
    go_ret2
    exact ⟨rfl, Below.refl _ _⟩
theorem unfN_succ (kind : Int) (bpp : Nat) (line above : List UInt8) (k : Nat) : unfN kind bpp line above (k + 1) = unfN kind bpp line above k ++ [UInt8.ofNat ((line.getD k 0).toNat + prN kind bpp (unfN kind bpp line above k) above k)] := rfl
theorem unfN_get (kind : Int) (bpp : Nat) (line above : List UInt8) (i : Nat) : ∀ n, i < n → (unfN kind bpp line above n)[i]? = some (UInt8.ofNat ((line.getD i 0).toNat + prN kind bpp (unfN kind bpp line above i) above i)) ∧ (unfN kind bpp line above n).take i = unfN kind bpp line above i
  | 0, h => by omega
  | n + 1, h => by
    rw [unfN_succ]
    by_cases hi : i < n
    · obtain ⟨h1, h2⟩ := unfN_get kind bpp line above i n hi
      have hl := unfN_len kind bpp line above n
      refine ⟨?_, ?_⟩
      · rw [List.getElem?_append_left (by omega)]; exact h1
      · rw [List.take_append_of_le_length (by omega)]; exact h2
    · have hin : i = n := by omega
      subst hin
      have hl := unfN_len kind bpp line above i
      refine ⟨?_, ?_⟩
      · rw [List.getElem?_append_right (by omega), hl, Nat.sub_self]; rfl
      · rw [List.take_append_of_le_length (by omega), List.take_of_length_le (by omega)]
theorem unf_get (kind : Int) (bpp : Nat) (hb : 1 ≤ bpp) (line above : List UInt8) (i : Nat) (h : i < (unfP kind bpp line above).length) : (unfP kind bpp line above)[i] = UInt8.ofNat ((line.getD i 0).toNat + prN kind bpp (unfP kind bpp line above) above i) := by
  have hl : i < line.length := by rw [unfP_len] at h; exact h
  obtain ⟨h1, h2⟩ := unfN_get kind bpp line above i line.length hl
  have h3 : (unfP kind bpp line above)[i]? = some _ := h1
  rw [List.getElem?_eq_getElem h] at h3
  injection h3 with h3
  rw [h3, ← h2, prN_take kind bpp hb]
  rfl

set_option maxHeartbeats 4000000 in
theorem unfilter_any (kind bpp : Int) (line above : ByteArray) (w : World) (hs : line.size ≤ 140737488355328) :
    Calls Tryz.prog 20 #[.int .i64 kind, .int .i64 bpp, .string line, .string above] w fun e w' =>
      e = .returned (.tuple #[.string (if fchk kind bpp line.data.toList above.data.toList = 0 then ⟨(unfP kind bpp.toNat line.data.toList above.data.toList).toArray⟩ else ⟨#[]⟩), .int .i64 (fchk kind bpp line.data.toList above.data.toList : Nat)]) ∧ Below w.heap.size w w' := by
  have HCK := Lib.hid (fun w => gcheck_any kind bpp line above w)
  by_cases h0 : fchk kind bpp line.data.toList above.data.toList = 0
  · have hb : 1 ≤ bpp ∧ bpp ≤ 8 := by
      unfold fchk at h0
      split at h0; · cases h0
      split at h0; · cases h0
      omega
    rw [if_pos h0, h0]
    rw [h0] at HCK
    obtain ⟨b, rfl⟩ : ∃ b : Nat, bpp = b := ⟨bpp.toNat, by omega⟩
    rw [Int.toNat_natCast]
    obtain ⟨FL, hFL⟩ : ∃ l, unfP kind b line.data.toList above.data.toList = l := ⟨_, rfl⟩
    have hfl : FL.length = line.size := by rw [← hFL, unfP_len]; simp
    have HFG : Hid (∀ i (h : i < FL.length), FL[i] = UInt8.ofNat ((line.data.toList.getD i 0).toNat + prN kind b FL above.data.toList i)) := by
      intro i h
      subst hFL
      exact unf_get kind b (by omega) _ _ i h
    rw [hFL]
    have HFL := Lib.hid hfl
    have hmk := run_mk el_b8 rfl line.size (by omega) (by omega)
    have HR0 : Hid (BRow (w.alloc (.cells (mkRow (.int .u8 0) line.size) 5)) w.heap.size 5 (.slice (some ⟨w.heap.size, 0, none⟩) (rowB FL 0).length line.size) (rowB FL 0)) := by
      have h1 := World.ownsRow_lit (e := 5) (size := 1) (base := w.heap.size) w (mkRow (.int .u8 0) line.size) line.size (Nat.le_refl _) (by unfold maxLen; omega) (by rw [mkRow_size]; omega)
      show World.ownsRow _ _ _ _ _ _ _
      rw [rowB_len FL 0 (Nat.zero_le _), hfl]
      rw [← hfl] at h1 ⊢
      rw [rowB_zero FL] at h1
      exact h1
    have HB0 : Hid (Below w.heap.size w (w.alloc (.cells (mkRow (.int .u8 0) line.size) 5))) := (Below.refl _ _).alloc (Nat.le_refl _) _
    clear h0 hFL hfl
    go_enter Tryz.func20, Tryz.ntmps20
    go_wp2_with fail
    refine (HCK.out _).mono ?_
    rintro e w1 ⟨rfl, rfl⟩
    clear HCK
    go_wp2_with fail
    clear hmk
    generalize w.alloc (.cells (mkRow (.int .u8 0) line.size) 5) = w0 at *
    obtain ⟨G, hG⟩ : ∃ G, G = w.heap.size := ⟨_, rfl⟩
    have HG := Lib.hid hG
    rw [← hG] at HR0 HB0 ⊢
    clear hG
    go_loopw [27] (fun vi wr => ∃ i : Nat, vi = .int .i64 i ∧ i ≤ line.size ∧ Hid (BRow wr G 5 (.slice (some ⟨G, 0, none⟩) (rowB FL i).length line.size) (rowB FL i)) ∧ Hid (Below G w wr)) (fun vi _ => line.size - (intOf vi).toNat)
    case atStart => exact ⟨0, rfl, Nat.zero_le _, HR0.out, HB0.out⟩
    case round =>
      obtain ⟨i, rfl, hi, hro, hbw⟩ := hrel
      by_cases hlt : i < line.size
      · have hd : decide ((i : Int) < (line.size : Int)) = true := by simp; omega
        obtain ⟨av, hav⟩ : ∃ n, atP FL ((i : Int) - b) = n := ⟨_, rfl⟩
        obtain ⟨bv, hbv⟩ : ∃ n, atP above.data.toList i = n := ⟨_, rfl⟩
        obtain ⟨cv, hcv⟩ : ∃ n, atP above.data.toList ((i : Int) - b) = n := ⟨_, rfl⟩
        obtain ⟨lb, hlb⟩ : ∃ x, line[i] = x := ⟨_, rfl⟩
        obtain ⟨D, hD⟩ : ∃ D, (i : Int) - b = D := ⟨_, rfl⟩
        have hav2 : av < 256 := by rw [← hav]; exact atP_lt _ _
        have hbv2 : bv < 256 := by rw [← hbv]; exact atP_lt _ _
        have hcv2 : cv < 256 := by rw [← hcv]; exact atP_lt _ _
        have HB1 := Lib.hid (fun w => gbyteAt_any above i w)
        have HB2 := Lib.hid (fun w => gbyteAt_any above D w)
        have HPR := Lib.hid (fun w => gpre_any kind av bv cv (by omega) (by omega) (by omega) w)
        rw [hbv] at HB1
        have hcvD : atP above.data.toList D = cv := by rw [← hD]; exact hcv
        rw [hcvD] at HB2
        obtain ⟨pr, hpr⟩ : ∃ n, prN kind b FL above.data.toList i = n := ⟨_, rfl⟩
        have hprl : pr < 256 := by rw [← hpr]; exact prN_lt _ _ _ _ _
        have hpi : preP kind av bv cv = (pr : Int) := by
          have h := preP_b kind av bv cv (by omega) (by omega) (by omega)
          rw [← hpr]; unfold prN; rw [hav, hbv, hcv]; omega
        rw [hpi] at HPR
        have hll := lb.toNat_lt
        obtain ⟨fb, hfb⟩ : ∃ x, UInt8.ofNat ((line.data.toList.getD i 0).toNat + pr) = x := ⟨_, rfl⟩
        have hfn : IntKind.u8.wrap ((lb.toNat : Int) + (pr : Int)) = (fb.toNat : Int) := by
          have e : line.data.toList.getD i 0 = lb := by
            rw [List.getD_eq_getElem?_getD, List.getElem?_eq_getElem (by simpa using hlt), ← hlb]; rfl
          rw [← hfb, e, UInt8.toNat_ofNat', IntKind.wrap_u8]
          omega
        have HFB : Hid (FL[i]'(by rw [HFL.out]; exact hlt) = fb) := by show _ = _; rw [HFG.out, hpr, hfb]
        have hpw : IntKind.u8.wrap (pr : Int) = (pr : Int) := by rw [IntKind.wrap_u8]; omega
        have hrl : (rowB FL i).length = line.size := by rw [rowB_len FL i (by rw [HFL.out]; exact hi), HFL.out]
        have HRL := Lib.hid hrl
        have HAV : Hid (atP FL D = av) := by show _ = _; rw [← hD]; exact hav
        obtain ⟨K0, hK0⟩ : ∃ K0, K0 = wr.heap.size := ⟨_, rfl⟩
        have HBU : Hid (∀ u : BW K0 wr, Below wr.heap.size wr u.w) := fun u => u.b.mono (by omega)
        have hDw : IntKind.i64.wrap ((i : Int) - (b : Int)) = D := by rw [IntKind.wrap_i64, ← hD]; omega
        have hDw2 : wrap64 ((i : Int) - (b : Int)) = D := by unfold wrap64; omega
        clear hav hbv hcv hcvD hpr hpi hfb hrl hK0
        by_cases hib : b ≤ i
        all_goals first
          | (have hib9 : b ≤ i := hib
             have dib : decide ((b : Int) ≤ (i : Int)) = true := by simp; omega
             obtain ⟨j, hj⟩ : ∃ j : Nat, D = j := ⟨i - b, by omega⟩
             subst hj
             have hjl : j < line.size := by omega
             have hjf : j < FL.length := by rw [HFL.out]; exact hjl
             obtain ⟨cb, hcb⟩ : ∃ x, FL[j] = x := ⟨_, rfl⟩
             have HAC : Hid (cb.toNat = av) := by
               show _ = _
               rw [← HAV.out]
               unfold atP
               rw [if_neg (by omega), Int.toNat_natCast, List.getElem?_eq_getElem hjf, ← hcb]; rfl
             have hcl : wr.cell? ⟨G, j, none⟩ = some (.int .u8 (cb.toNat : Int)) := by
               have h := hro.out
               unfold BRow at h
               rw [HRL.out] at h
               rw [World.ownsRow.cellAt h _ (by omega)]
               rw [cell_rowB FL i j (by omega) hjf, hcb]
             go_upto_region 11 with fail
             rw [show wrap64 (cb.toNat : Int) = (av : Int) by rw [wrap64_byte', HAC.out]])
          | (have dib : decide ((b : Int) ≤ (i : Int)) = false := by simp; omega
             have hav0 : (av : Int) = 0 := by
               rw [← HAV.out]; unfold atP; rw [if_pos (by omega)]; rfl
             rw [hav0] at HPR
             go_upto_region 11 with fail)
        all_goals
          refine wp_region_bw_tail K0 wr 19 (Below.refl _ _) (by kernel_rfl) (by kernel_rfl) ?_
          simp only [List.take_succ_cons, List.take_zero, List.drop_succ_cons, List.drop_zero]
          repeat (go_big_quiet_step (first | (go_at_call_of 43 (Value.int .i64 (i : Int)); exact calls_bw_same (HB1.out _)) | (go_at_call 43; exact calls_bw_same (HB2.out _)) | (go_at_call 42; exact calls_bw_same (HPR.out _))))
          refine wpQuiet_nil ?_
          rintro _ ⟨v9, rfl⟩
          have HB5 := Lib.hid (HBU.out v9)
          generalize v9.w = w5 at *
          have hro5 : BRow w5 G 5 (.slice (some ⟨G, 0, none⟩) (rowB FL i).length line.size) (rowB FL i) := (Fr.of_below (B := 0) HB5.out []).owns hro.out (by simp)
          have HP5 := Lib.hid (hro5.put i fb)
          have hro6 := hro5
          unfold BRow at hro6
          rw [HRL.out] at hro6
          obtain ⟨u0, t0⟩ : ∃ u0, w5.cell? ⟨G, i, none⟩ = some u0 := by
            rw [World.ownsRow.cellAt hro6 _ (by omega)]
            exact ⟨_, List.getElem?_eq_getElem (by rw [bcells_length, HRL.out]; exact hlt)⟩
          have f0 := World.ownsRow.frozenAt hro6 i
          have HNX : Hid (BRow (w5.setCell ⟨G, i, none⟩ (.int .u8 (fb.toNat : Int))) G 5 (.slice (some ⟨G, 0, none⟩) (rowB FL (i + 1)).length line.size) (rowB FL (i + 1))) := by
            have h := HP5.out
            rw [← HFB.out, rowB_next FL i (by rw [HFL.out]; exact hlt)] at h
            rw [← HFB.out]
            exact h
          have HBN : Hid (Below G w (w5.setCell ⟨G, i, none⟩ (.int .u8 (fb.toNat : Int)))) := (hbw.out.trans (HB5.out.mono (by rw [HG.out]; exact hbw.out.size))).setCell (Nat.le_refl _) _
          clear hro6 hro5 HP5 HB5 hbw hro HBU
          go_wp2_with fail
          go_roundw
          case rel => exact ⟨i + 1, by go_num, by omega, HNX, HBN⟩
          case measure => simp [intOf]; omega
      · have hd : decide ((i : Int) < (line.size : Int)) = false := by simp; omega
        have hil : i = line.size := by omega
        have hcv : ∀ w', wr = w' → (convert 54 9 (.slice (some ⟨G, 0, none⟩) line.size line.size)).run Tryz.prog wr = .ok (.string ⟨FL.toArray⟩) wr := by
          intro _ _
          have h := hro.out
          rw [hil, ← HFL.out, rowB_all] at h
          have h2 := run_str_of Tryz.underlying54 Tryz.underlying5 Tryz.underlying9 h
          rw [HFL.out] at h2
          exact h2
        have hcv := hcv wr rfl
        clear hro
        go_wp2_with fail
        go_ret2
        exact ⟨rfl, by rw [← HG.out]; exact hbw.out⟩
  · rw [if_neg h0]
    obtain ⟨z, hz⟩ : ∃ z, fchk kind bpp line.data.toList above.data.toList = z := ⟨_, rfl⟩
    rw [hz] at HCK h0 ⊢
    have hz0 : ((z : Int) != 0) = true := by simp; omega
    clear hz h0
    go_enter Tryz.func20, Tryz.ntmps20
    go_wp2_with fail
    refine (HCK.out _).mono ?_
    rintro e w1 ⟨rfl, rfl⟩
    go_wp2_with fail
    go_ret2
    exact ⟨rfl, Below.refl _ _⟩
end Go.Proofs.YthbejefodelpkaaGreat
