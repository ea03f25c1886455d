/-
  The reference of tiff: colors.
-/
import Derived.Test.YtakileiomgaahaaTr6
import Derived.Test.YtakileiomgaahaaTr5
import Derived.Test.YtakileiomgaahaaStra
namespace Go.Proofs.Ytakileiomgaahaa
open Go.RowKit

def pcells (l : List Px) : List Value := (pixA l).toList
theorem pcells_append (a b : List Px) : pcells (a ++ b) = pcells a ++ pcells b := by simp [pcells, pixA]
/-- The slice value v owns a row of pixels, from block base on. -/
def POwn (w : World) (base : Nat) (v : Value) (l : List Px) : Prop := w.ownsRow base 46 4 v l.length (pcells l)
theorem pown_more {w : World} {base : Nat} {v : Value} {n : Nat} {l : List Px} {xs : List Value} (h : w.ownsRow base 46 4 v n (pcells l ++ xs)) (new : List Px) (hx : xs = pcells new) (hn : n = l.length + new.length) : POwn w base v (l ++ new) := by
  subst hx; subst hn
  unfold POwn
  rw [pcells_append, List.length_append]
  exact h
theorem pown_shape {w : World} {b : Nat} {v : Value} {l : List Px} (h : POwn w b v l) : ∃ x c, v = .slice x l.length c := by
  rcases h.2 with ⟨rfl, h0⟩ | ⟨g, cap, cur, rfl, _⟩
  · exact ⟨none, 0, by rw [h0]⟩
  · exact ⟨_, _, rfl⟩
theorem POwn.prow {w : World} {base : Nat} {v : Value} {l : List Px} (h : POwn w base v l) : PRow w v l := by
  rcases h.2 with ⟨rfl, h0⟩ | ⟨g, cap, cur, rfl, _, hg, hc, hm, _⟩
  · have : l = [] := List.eq_nil_of_length_eq_zero h0
    subst this
    exact ⟨none, 0, rfl, Nat.le_refl _, by unfold maxLen; omega, fun _ => rfl, fun h => absurd rfl h⟩
  · refine ⟨_, cap, rfl, hc, hm, (fun h => by cases h), fun _ => ⟨g, 0, rfl, fun i hi => ?_⟩⟩
    have gt : ∀ j, j < 4 → w.cell? ⟨g, i * 4 + j, none⟩ = some (.int .i64 (pxG l[i] j)) := fun j hj => by
      have e := pixA_get l i j hi hj
      have e2 : (pcells l)[i * 4 + j]? = some (.int .i64 (pxG l[i] j)) := by unfold pcells; rw [Array.getElem?_toList]; exact e
      have := World.ownsRow.cells h (g := g) rfl _ _ e2
      rw [Addr.add_lit] at this
      simpa using this
    refine ⟨?_, ?_, ?_, ?_⟩
    · have := gt 0 (by decide); simp only [pxG, Nat.zero_add, Nat.add_zero] at this ⊢; exact this
    · have := gt 1 (by decide); simp only [pxG, Nat.zero_add] at this ⊢; exact this
    · have := gt 2 (by decide); simp only [pxG, Nat.zero_add] at this ⊢; exact this
    · have := gt 3 (by decide); simp only [pxG, Nat.zero_add] at this ⊢; exact this

theorem POwn.below {w w' : World} {B : Nat} {v : Value} {l : List Px} (h : POwn w B v l) (hb : Below w.heap.size w w') : POwn w' B v l := own_below h hb
theorem own_rset {w : World} {base : Nat} {e : TypeId} {size : Nat} {v : Value} {n : Nat} {xs : List Value} (h : w.ownsRow base e size v n xs) {k : Nat} (hk : v.ownBlock ≠ some k) (T : Array Value) : (w.setRow k T).ownsRow base e size v n xs := by
  obtain ⟨h1, h2⟩ := h
  refine ⟨h1, ?_⟩
  rcases h2 with h2 | ⟨g, cap, cur, hv, hg, hh, r⟩
  · exact Or.inl h2
  · subst hv
    exact Or.inr ⟨g, cap, cur, rfl, hg, by rw [heap_rset_ne w k g T (fun e => hk (by simp [Value.ownBlock, e]))]; exact hh, r⟩
/-- The pixel with the samples from a place on. -/
def pixV (H : Hd) (vs : List Nat) (i : Nat) : Px :=
  if H.samples = 1 then (if H.photo = 0 then 65535 - (vs.getD i 0 : Int) else vs.getD i 0, if H.photo = 0 then 65535 - (vs.getD i 0 : Int) else vs.getD i 0, if H.photo = 0 then 65535 - (vs.getD i 0 : Int) else vs.getD i 0, 65535)
  else if H.samples = 3 then (vs.getD i 0, vs.getD (i + 1) 0, vs.getD (i + 2) 0, 65535)
  else if H.alpha = 1 then straP (vs.getD i 0, vs.getD (i + 1) 0, vs.getD (i + 2) 0, vs.getD (i + 3) 0) else (vs.getD i 0, vs.getD (i + 1) 0, vs.getD (i + 2) 0, vs.getD (i + 3) 0)
theorem pixV_eq (H : Hd) (d : List UInt8) (N k : Nat) (hb : 1 ≤ H.bytes) (hsm : H.samples = 1 ∨ H.samples = 3 ∨ H.samples = 4) (hl : d.length = N * H.samples * H.bytes) (hk : k < N) : pixV H (smpL H d) (k * H.samples) = pixP H (chunkT (H.samples * H.bytes) d k) := by
  have hL : (smpL H d).length = N * H.samples := by unfold smpL; rw [smpK_len, hl, Nat.mul_div_cancel _ hb]
  have hs1 : (k + 1) * H.samples ≤ N * H.samples := Nat.mul_le_mul_right _ hk
  rw [Nat.succ_mul] at hs1
  have key : ∀ j, j < H.samples → (smpL H d).getD (k * H.samples + j) 0 = smpN H (chunkT (H.samples * H.bytes) d k) j := fun j hj => by
    rw [smpN_chunk H d H.samples k j hj hb, List.getD_eq_getElem?_getD, List.getElem?_eq_getElem (by omega)]
    simp [smpL, smpK]
  have k0 := key 0 (by omega)
  rw [Nat.add_zero] at k0
  unfold pixV pixP
  by_cases h1 : H.samples = 1
  · rw [if_pos h1, if_pos h1, k0]
  · rw [if_neg h1, if_neg h1, k0, key 1 (by omega), key 2 (by omega)]
    by_cases h3 : H.samples = 3
    · rw [if_pos h3, if_pos h3]
    · rw [if_neg h3, if_neg h3, key 3 (by omega)]

set_option maxHeartbeats 8000000 in
set_option maxRecDepth 100000 in
theorem rcolors_any (v vv : Value) (l : List Tg) (vals : List Nat) (H : Hd) (N : Nat) (w : World) (hr : TRow w v l) (hv : IRow w vv vals) (hN : 1 ≤ N) (hN2 : N ≤ 65536) (hsm : H.samples = 1 ∨ H.samples = 3 ∨ H.samples = 4) (hl : vals.length = N * H.samples) (hvb : ∀ x ∈ vals, x ≤ 65535)
    (hsmf : firstN l 277 0 = H.samples) (hph : firstN l 262 0 = H.photo) (hal : firstN l 338 0 = H.alpha) :
    Calls Try.prog 52 #[v, vv] w fun e w' => ∃ u, e = .returned u ∧ POwn w' w.heap.size u ((List.range N).map fun k => pixV H vals (k * H.samples)) ∧ Below w.heap.size w w' := by
  have HFS := Lib.hid (fun wx hb => rfirst_at hr 277 0 wx hb)
  have HFP := Lib.hid (fun wx hb => rfirst_at hr 262 0 wx hb)
  have HFA := Lib.hid (fun wx hb => rfirst_at hr 338 0 wx hb)
  obtain ⟨xv, cv, rfl, -⟩ := hr
  rw [hsmf] at HFS
  rw [hph] at HFP
  rw [hal] at HFA
  obtain ⟨HH, hHH⟩ : ∃ X, X = H := ⟨_, rfl⟩
  have HHH := Lib.hid hHH
  have HRES : Hid ((List.range N).map (fun k => pixV H vals (k * H.samples)) = (List.range N).map (fun k => pixV HH vals (k * H.samples))) := by show _ = _; rw [hHH]
  rw [HRES.out]
  clear hHH HRES hsmf hph hal
  obtain ⟨HW, Hh, by_, sm, ph, al, ro, pk, big⟩ := H
  simp only at hsm hl HFS HFP HFA ⊢
  have HP1 : Hid (∀ i, sm = 1 → pixV HH vals i = (if ph = 0 then 65535 - (vals.getD i 0 : Int) else vals.getD i 0, if ph = 0 then 65535 - (vals.getD i 0 : Int) else vals.getD i 0, if ph = 0 then 65535 - (vals.getD i 0 : Int) else vals.getD i 0, 65535)) := fun i h => by rw [HHH.out]; unfold pixV; rw [if_pos h]
  have HP3 : Hid (∀ i, sm = 3 → pixV HH vals i = (((vals.getD i 0 : Nat) : Int), ((vals.getD (i + 1) 0 : Nat) : Int), ((vals.getD (i + 2) 0 : Nat) : Int), (65535 : Int))) := fun i h => by rw [HHH.out]; unfold pixV; rw [if_neg (by show ¬ sm = 1; omega), if_pos h]
  have HP4 : Hid (∀ i, sm = 4 → pixV HH vals i = if al = 1 then straP (vals.getD i 0, vals.getD (i + 1) 0, vals.getD (i + 2) 0, vals.getD (i + 3) 0) else (vals.getD i 0, vals.getD (i + 1) 0, vals.getD (i + 2) 0, vals.getD (i + 3) 0)) := fun i h => by rw [HHH.out]; unfold pixV; rw [if_neg (by show ¬ sm = 1; omega), if_neg (by show ¬ sm = 3; omega)]
  have hne : vals ≠ [] := by
    rintro rfl
    rw [List.length_nil] at hl
    have : 1 * 1 ≤ N * sm := Nat.mul_le_mul hN (by omega)
    omega
  obtain ⟨xx, cc, rfl, hlc, hcm, hcell⟩ := hv
  obtain ⟨b, off, rfl, hc⟩ := hcell hne
  have hbl : b < w.heap.size := World.block_lt_of_cell? w _ (hc 0 (List.length_pos_iff.2 hne))
  have HGV : Hid (∀ wx, Below w.heap.size w wx → ∀ i, i < vals.length → wx.cell? ⟨b, off + i, none⟩ = some (.int .i64 (vals.getD i 0 : Nat))) := fun wx hb i hi => by
    rw [hb.cell (p := ⟨b, _, none⟩) hbl, hc i hi, List.getD_eq_getElem?_getD, List.getElem?_eq_getElem hi]; rfl
  have HVB : Hid (∀ i, vals.getD i 0 ≤ 65535) := fun i => by
    rw [List.getD_eq_getElem?_getD]
    by_cases h : i < vals.length
    · rw [List.getElem?_eq_getElem h]; exact hvb _ (List.getElem_mem h)
    · rw [List.getElem?_eq_none (by omega)]; exact Nat.zero_le _
  have h4 : sm ≤ 4 := by omega
  have hLb : vals.length ≤ 262144 := by rw [hl]; exact Nat.mul_le_mul hN2 h4
  obtain ⟨L, hL⟩ : ∃ L, vals.length = L := ⟨_, rfl⟩
  rw [hL] at HGV hl hLb ⊢
  have HL := Lib.hid hl
  generalize hB : w.heap.size = B at *
  have HB := Lib.hid hB
  have HSM := Lib.hid hsm
  have HBL := Lib.hid hbl
  have hs1 : 1 ≤ sm := by omega
  have hs4 : sm ≤ 4 := by omega
  clear hB hl hL hc hcell hlc hcm hne hvb hN hbl hsm
  go_enter Try.func52, Try.ntmps52
  go_wp2_with fail
  refine (HFP.out w (Below.refl _ _)).mono ?_
  rintro e w1 ⟨rfl, rfl⟩
  go_wp2_with fail
  refine (HFS.out w (Below.refl _ _)).mono ?_
  rintro e w1 ⟨rfl, rfl⟩
  go_wp2_with fail
  refine (HFA.out w (Below.refl _ _)).mono ?_
  rintro e w1 ⟨rfl, rfl⟩
  clear HFP HFS HFA
  go_upto_region 3 with fail
  go_wp2_with fail
  go_loopw [9, 8] (fun vi vo wr => ∃ k i : Nat, vi = .int .i64 i ∧ Hid (i = k * sm) ∧ k ≤ N ∧ Hid (POwn wr B vo ((List.range k).map fun k => pixV HH vals (k * sm))) ∧ Hid (Below B w wr) ∧ B ≤ wr.heap.size) (fun vi _ _ => L - (intOf vi).toNat)
  case atStart => exact ⟨0, 0, rfl, by show _ = _; simp, Nat.zero_le _, World.ownsRow_nil _ _ _ _, Below.refl _ _, by rw [HB.out]; exact Nat.le_refl _⟩
  case round =>
    obtain ⟨k, i, rfl, hi, hk, how, hbw, hszr⟩ := hrel
    obtain ⟨i2, hi2⟩ : ∃ q, i + sm = q := ⟨_, rfl⟩
    have mi2 : (i : Int) + (sm : Int) = (i2 : Int) := by omega
    by_cases hlt : i2 ≤ L
    · have dlt : decide ((i2 : Int) ≤ (L : Int)) = true := by simp; omega
      have hkN : k < N := by
        rcases Nat.lt_or_ge k N with h | h
        · exact h
        · have := Nat.mul_le_mul_right sm h
          have h1 := hi.out; have h2 := HL.out
          omega
      have HI2 : Hid (i2 = (k + 1) * sm) := by show _ = _; rw [Nat.succ_mul, ← hi2, hi.out]
      have hi2b : i2 ≤ 262144 := by omega
      have HACC : Hid ((List.range (k + 1)).map (fun k => pixV HH vals (k * sm)) = (List.range k).map (fun k => pixV HH vals (k * sm)) ++ [pixV HH vals i]) := by show _ = _; rw [List.range_succ, List.map_append, hi.out]; rfl
      obtain ⟨ACC, hACC⟩ : ∃ l, (List.range k).map (fun k => pixV HH vals (k * sm)) = l := ⟨_, rfl⟩
      have hal : ACC.length = k := by rw [← hACC]; simp
      rw [hACC] at HACC how
      obtain ⟨xo, co, hvo⟩ := pown_shape how.out
      rw [hal] at hvo
      subst hvo
      have HAL := Lib.hid hal
      have hown := how.out
      unfold POwn at hown
      rw [hal] at hown
      have HKN := Lib.hid hkN
      clear hACC hal how
      have hk9 : k ≤ 65536 := by omega
      have hi9 : i ≤ 262144 := by omega
      by_cases h1 : sm = 1
      · have e1 : ((sm : Int) == 1) = true := by rw [h1]; rfl
        have c0 : wr.cell? ⟨b, off + i, none⟩ = some (.int .i64 (vals.getD i 0 : Nat)) := HGV.out wr hbw.out i (by omega)
        have hg := HVB.out i
        have HPX := Lib.hid (HP1.out i h1)
        generalize vals.getD i 0 = g at *
        have i1 : (i : Int) < (L : Int) := by omega
        obtain ⟨G, hG⟩ : ∃ G : Int, (if ph = 0 then 65535 - (g : Int) else (g : Int)) = G := ⟨_, rfl⟩
        rw [hG] at HPX
        have HG := Lib.hid hG
        clear h1 hG
        go_upto_if 34 with fail
        go_cut [10] (fun v10 wx => v10 = .int .i64 G ∧ wx = wr)
        case first =>
          by_cases hp : ph = 0
          · have ep : ((ph : Int) == 0) = true := by rw [hp]; rfl
            have eg : 65535 - (g : Int) = G := by have := HG.out; rwa [if_pos hp] at this
            clear hp HG
            go_wp2_with fail
            go_meet
            case rel => exact ⟨rfl, rfl⟩
          · have ep : ((ph : Int) == 0) = false := by rw [beq_eq_false_iff_ne]; omega
            have eg : (g : Int) = G := by have := HG.out; rwa [if_neg hp] at this
            clear hp HG
            go_wp2_with fail
            go_meet
            case rel => exact ⟨by rw [eg], rfl⟩
        case rest =>
          obtain ⟨rfl, hwc⟩ := hcut
          have hwc2 := hwc.symm
          subst hwc2
          clear hwc c0
          go_wp2_with (at_builtin; refine wpList_app el_pix hown hszr rfl rfl rfl (m := 0) rfl (by simp [Value.oneCell']) rfl (by omega) (by unfold maxLen; omega) ?_)
          intro r2 cap2 w5 ho5 hg5 _
          have hbel := below_app hbw.out hszr hown hg5
          have hrow5 := pown_more ho5 [(G, G, G, 65535)] rfl (by rw [HAL.out]; rfl)
          rw [← HPX.out, ← HACC.out] at hrow5
          have HROW5 := Lib.hid hrow5
          have HB5 := Lib.hid hbel.1
          have hz5 := hbel.2
          clear ho5 hg5 hbel hrow5 hown hbw
          go_wp2_with fail
          go_roundw
          case rel => exact ⟨k + 1, i2, rfl, HI2.out, HKN.out, HROW5.out, HB5.out, hz5⟩
          case measure => simp [intOf]; omega
      · have e1 : ((sm : Int) == 1) = false := by rw [beq_eq_false_iff_ne]; omega
        obtain ⟨j1, hj1⟩ : ∃ q, i + 1 = q := ⟨_, rfl⟩
        obtain ⟨j2, hj2⟩ : ∃ q, i + 2 = q := ⟨_, rfl⟩
        have m1 : (i : Int) + 1 = (j1 : Int) := by omega
        have m2 : (i : Int) + 2 = (j2 : Int) := by omega
        have c0 : wr.cell? ⟨b, off + i, none⟩ = some (.int .i64 (vals.getD i 0 : Nat)) := HGV.out wr hbw.out i (by omega)
        have c1 : wr.cell? ⟨b, off + j1, none⟩ = some (.int .i64 (vals.getD j1 0 : Nat)) := HGV.out wr hbw.out j1 (by have := HSM.out; omega)
        have c2 : wr.cell? ⟨b, off + j2, none⟩ = some (.int .i64 (vals.getD j2 0 : Nat)) := HGV.out wr hbw.out j2 (by have := HSM.out; omega)
        have hba := hbw.out.alloc (o := .cells #[.int .i64 0, .int .i64 0, .int .i64 0, .int .i64 0] 46) hszr
        have a0 := HGV.out _ hba i (by omega)
        have a1 := HGV.out _ hba j1 (by have := HSM.out; omega)
        have a2 := HGV.out _ hba j2 (by have := HSM.out; omega)
        have i1 : (i : Int) < (L : Int) := by omega
        have i1' : (j1 : Int) < (L : Int) := by have := HSM.out; omega
        have i2' : (j2 : Int) < (L : Int) := by have := HSM.out; omega
        have w1 : IntKind.i64.wrap (j1 : Int) = (j1 : Int) := by rw [IntKind.wrap_i64]; omega
        have w2 : IntKind.i64.wrap (j2 : Int) = (j2 : Int) := by rw [IntKind.wrap_i64]; omega
        have HJ : Hid (i + 1 = j1 ∧ i + 2 = j2) := ⟨hj1, hj2⟩
        obtain ⟨g0, hg0⟩ : ∃ g, vals.getD i 0 = g := ⟨_, rfl⟩
        obtain ⟨g1, hg1⟩ : ∃ g, vals.getD j1 0 = g := ⟨_, rfl⟩
        obtain ⟨g2, hg2⟩ : ∃ g, vals.getD j2 0 = g := ⟨_, rfl⟩
        rw [hg0] at c0 a0
        rw [hg1] at c1 a1
        rw [hg2] at c2 a2
        have HG : Hid (vals.getD i 0 = g0 ∧ vals.getD j1 0 = g1 ∧ vals.getD j2 0 = g2) := ⟨hg0, hg1, hg2⟩
        clear hj1 hj2 hg0 hg1 hg2 hba
        go_upto_region 11 with fail
        go_cut [11] (fun v11 wx => v11 = .pointer (some ⟨wr.heap.size, 0, none⟩) ∧ Hid (Blk wx wr.heap.size 46 (pxC (g0, g1, g2, 65535))) ∧ Hid (POwn wx B (.slice xo k co) ACC) ∧ Hid (Below B w wx) ∧ B ≤ wx.heap.size)
        case first =>
          have HA1 : Hid (Blk (wr.alloc (.cells #[.int .i64 (g0 : Int), .int .i64 (g1 : Int), .int .i64 (g2 : Int), .int .i64 65535] 46)).drew wr.heap.size 46 (pxC (g0, g1, g2, 65535))) := (Blk.new wr 46 (pxC (g0, g1, g2, 65535))).drew
          have HA2 : Hid (POwn (wr.alloc (.cells #[.int .i64 (g0 : Int), .int .i64 (g1 : Int), .int .i64 (g2 : Int), .int .i64 65535] 46)).drew B (.slice xo k co) ACC) := by
            show World.ownsRow _ _ _ _ _ _ _
            rw [HAL.out]
            exact World.ownsRow.alloc hown _
          have HA3 : Hid (Below B w (wr.alloc (.cells #[.int .i64 (g0 : Int), .int .i64 (g1 : Int), .int .i64 (g2 : Int), .int .i64 65535] 46)).drew) := (hbw.out.alloc hszr _).drew
          have HA4 : Hid (B ≤ (wr.alloc (.cells #[.int .i64 (g0 : Int), .int .i64 (g1 : Int), .int .i64 (g2 : Int), .int .i64 65535] 46)).drew.heap.size) := by
            show B ≤ (wr.alloc _).heap.size
            simp; omega
          go_region
          all_goals
            go_wp2_with fail
            go_meet
            case rel => exact ⟨rfl, HA1.out, HA2.out, HA3.out, HA4.out⟩
        case rest =>
          obtain ⟨rfl, HBX, HOX, HBW, hszc⟩ := hcut
          have HOB : Hid ((Value.slice xo k co).ownBlock ≠ some wr.heap.size) := fun h => by have := (World.ownsRow.lt hown _ h).2; omega
          have HBK : Hid (B ≤ wr.heap.size) := hszr
          clear hbw hszr hown a0 a1 a2 c0 c1 c2 m1 m2 i1 i1' i2' w1 w2
          generalize wr.heap.size = K at *
          go_upto_if 60 with fail
          go_cut [] (fun wx => Hid (Blk wx K 46 (pxC (pixV HH vals i))) ∧ Hid (POwn wx B (.slice xo k co) ACC) ∧ Hid (Below B w wx) ∧ Hid (B ≤ wx.heap.size))
          case first =>
            by_cases hs4 : sm = 4
            · have e4 : ((sm : Int) == 4) = true := by rw [hs4]; rfl
              obtain ⟨j3, hj3⟩ : ∃ q, i + 3 = q := ⟨_, rfl⟩
              have m3 : (i : Int) + 3 = (j3 : Int) := by omega
              have i3 : (j3 : Int) < (L : Int) := by omega
              have c3 : wc.cell? ⟨b, off + j3, none⟩ = some (.int .i64 (vals.getD j3 0 : Nat)) := HGV.out wc HBW.out j3 (by omega)
              obtain ⟨g3, hg3⟩ : ∃ g, vals.getD j3 0 = g := ⟨_, rfl⟩
              rw [hg3] at c3
              have HPX : Hid (pixV HH vals i = if al = 1 then straP ((g0 : Int), (g1 : Int), (g2 : Int), (g3 : Int)) else ((g0 : Int), (g1 : Int), (g2 : Int), (g3 : Int))) := by
                show _ = _
                rw [HP4.out i hs4, HJ.out.1, HJ.out.2, hj3, HG.out.1, HG.out.2.1, HG.out.2.2, hg3]
              have q3 : wc.cell? ⟨K, 3, none⟩ = some (.int .i64 65535) := HBX.out.cell 3
              have f3 := HBX.out.frozen 3
              have HB3 : Hid (Blk (wc.setCell ⟨K, 3, none⟩ (.int .i64 (g3 : Int))) K 46 (pxC (g0, g1, g2, g3))) := HBX.out.put 3 _
              have HO3 : Hid (POwn (wc.setCell ⟨K, 3, none⟩ (.int .i64 (g3 : Int))) B (.slice xo k co) ACC) := ownsRow_setCell_other HOX.out HOB.out _
              have HW3 : Hid (Below B w (wc.setCell ⟨K, 3, none⟩ (.int .i64 (g3 : Int)))) := below_put HBW.out HBK.out _
              have HS3 : Hid (B ≤ (wc.setCell ⟨K, 3, none⟩ (.int .i64 (g3 : Int))).heap.size) := by show _ ≤ _; simpa [World.setCell] using hszc
              clear hg3 hj3 hs4
              go_upto_region 14 with fail
              clear q3 f3 c3 m3 i3
              generalize wc.setCell ⟨K, 3, none⟩ (.int .i64 (g3 : Int)) = w3 at *
              by_cases ha : al = 1
              · have ea : ((al : Int) == 1) = true := by rw [ha]; rfl
                obtain ⟨r, hr⟩ : ∃ r, straP ((g0 : Int), (g1 : Int), (g2 : Int), (g3 : Int)) = r := ⟨_, rfl⟩
                have HPR : Hid (pixV HH vals i = r) := by show _ = _; rw [HPX.out, if_pos ha, hr]
                have HSR : Hid (∀ w, Calls Try.prog 81 #[.agg #[.int .i64 (g0 : Int), .int .i64 (g1 : Int), .int .i64 (g2 : Int), .int .i64 (g3 : Int)]] w fun e w' => e = .returned (.agg (pxC r)) ∧ Below w.heap.size w w') := fun w => by rw [← hr]; exact rstraight_any _ w
                have q0 : w3.cell? ⟨K, 0, none⟩ = some (.int .i64 (g0 : Int)) := HB3.out.cell 0
                have q1 : w3.cell? ⟨K, 1, none⟩ = some (.int .i64 (g1 : Int)) := HB3.out.cell 1
                have q2 : w3.cell? ⟨K, 2, none⟩ = some (.int .i64 (g2 : Int)) := HB3.out.cell 2
                have q3 : w3.cell? ⟨K, 3, none⟩ = some (.int .i64 (g3 : Int)) := HB3.out.cell 3
                have HRI := Lib.hid (pxC_inf r)
                have HR1 := Lib.hid (pxC_one r)
                clear ha hr HPX
                go_wp2_with fail
                refine (HSR.out _).mono ?_
                rintro e w4 ⟨rfl, hb4⟩
                have HB4 : Hid (Blk w4 K 46 (pxC (g0, g1, g2, g3))) := (hb4.block _ HB3.out.lt).trans HB3.out
                have HO4 : Hid (POwn w4 B (.slice xo k co) ACC) := HO3.out.below hb4
                have HW4 : Hid (Below B w w4) := HW3.out.trans (hb4.mono HS3.out)
                have HS4 : Hid (B ≤ w4.heap.size) := Nat.le_trans HS3.out hb4.size
                obtain ⟨RC, hRC⟩ : ∃ A, pxC r = A := ⟨_, rfl⟩
                have HRC := Lib.hid hRC
                have HRS : Hid ((pxC ((g0 : Int), (g1 : Int), (g2 : Int), (g3 : Int))).size = RC.size) := by show _ = _; rw [← hRC]; rfl
                rw [hRC] at HRI HR1 ⊢
                clear hb4 q0 q1 q2 q3 hRC HSR
                go_wp2_with (refine wpList_store_rowTo rfl 46 (.tmp 11) (.tmp 70) rfl rfl K RC (by rfl) (by rfl) 46 _ (by exact HB4.out) (by exact HRI.out) (by exact HRS.out) (by exact HR1.out) ?_)
                go_meet
                case rel =>
                  refine ⟨?_, own_rset HO4.out HOB.out RC, below_rset HW4.out HBK.out RC, ?_⟩
                  · show Blk _ _ _ _
                    rw [HPR.out, HRC.out]
                    exact HB4.out.rset RC
                  · show _ ≤ _
                    rw [rset_size]
                    exact HS4.out
              · have ea : ((al : Int) == 1) = false := by rw [beq_eq_false_iff_ne]; omega
                have HPR : Hid (pixV HH vals i = ((g0 : Int), (g1 : Int), (g2 : Int), (g3 : Int))) := by show _ = _; rw [HPX.out, if_neg ha]
                clear ha HPX
                go_wp2_with fail
                go_meet
                case rel => exact ⟨by show Blk _ _ _ _; rw [HPR.out]; exact HB3.out, HO3.out, HW3.out, HS3.out⟩
            · have e4 : ((sm : Int) == 4) = false := by rw [beq_eq_false_iff_ne]; omega
              have HPR : Hid (pixV HH vals i = ((g0 : Int), (g1 : Int), (g2 : Int), (65535 : Int))) := by
                show _ = _
                rw [HP3.out i (by have := HSM.out; omega), HJ.out.1, HJ.out.2, HG.out.1, HG.out.2.1, HG.out.2.2]
              clear hs4
              go_wp2_with fail
              go_meet
              case rel => exact ⟨by show Blk _ _ _ _; rw [HPR.out]; exact HBX.out, HOX.out, HBW.out, hszc⟩
          case rest =>
            obtain ⟨HBX2, HOX2, HBW2, HSZ2⟩ := hcut
            clear HBX HOX HBW hszc
            obtain ⟨p, hp⟩ : ∃ p, pixV HH vals i = p := ⟨_, rfl⟩
            rw [hp] at HBX2 HACC
            obtain ⟨p0, p1, p2, p3⟩ := p
            have q0 : wc.cell? ⟨K, 0, none⟩ = some (.int .i64 p0) := HBX2.out.cell 0
            have q1 : wc.cell? ⟨K, 1, none⟩ = some (.int .i64 p1) := HBX2.out.cell 1
            have q2 : wc.cell? ⟨K, 2, none⟩ = some (.int .i64 p2) := HBX2.out.cell 2
            have q3 : wc.cell? ⟨K, 3, none⟩ = some (.int .i64 p3) := HBX2.out.cell 3
            have hown := HOX2.out
            unfold POwn at hown
            rw [HAL.out] at hown
            have hszr := HSZ2.out
            clear hp
            go_wp2_with (at_builtin; refine wpList_app el_pix hown hszr rfl rfl rfl (m := 0) rfl (by simp [Value.oneCell']) rfl (by omega) (by unfold maxLen; omega) ?_)
            intro r2 cap2 w5 ho5 hg5 _
            have hbel := below_app HBW2.out hszr hown hg5
            have hrow5 := pown_more ho5 [(p0, p1, p2, p3)] rfl (by rw [HAL.out]; rfl)
            rw [← HACC.out] at hrow5
            have HROW5 := Lib.hid hrow5
            have HB5 := Lib.hid hbel.1
            have hz5 := hbel.2
            clear ho5 hg5 hbel hrow5 hown q0 q1 q2 q3
            go_wp2_with fail
            go_roundw
            case rel => exact ⟨k + 1, i2, rfl, HI2.out, HKN.out, HROW5.out, HB5.out, hz5⟩
            case measure => simp [intOf]; omega
    · have dlt : decide ((i2 : Int) ≤ (L : Int)) = false := by simp; omega
      have hkN : k = N := by
        rcases Nat.lt_or_ge k N with h | h
        · have := Nat.mul_le_mul_right sm h
          rw [Nat.succ_mul] at this
          have h1 := hi.out; have h2 := HL.out
          omega
        · omega
      subst hkN
      have hlt2 : L < i2 := by omega
      have hi9 : i ≤ 262144 := by have h1 := hi.out; have h2 := HL.out; omega
      have hi2b : i2 ≤ 262148 := by omega
      have hlt3 : (L : Int) < (i2 : Int) := by omega
      clear HP1 HP3 HP4 hi2
      go_wp2_with fail
      go_ret
      exact ⟨u8, rfl, how.out, hbw.out⟩
end Go.Proofs.Ytakileiomgaahaa
