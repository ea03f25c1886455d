/-
  Walks: Decode, in the program.
-/
import Derived.Test.YtakkdgcmeeilbaaDoorP10
import Derived.Deep.Cut
import Derived.Deep.CutBlock
import Derived.Deep.CutRange
import Derived.Deep.RegionWith
namespace Go.Proofs.YtakkdgcmeeilbaaDoor
open Go.RowKit

/-- The cells of Decode's loop. -/
structure DLs (w wr : World) (B K I Q W H D G N : Nat) (mv : Value) (ms : List Mt) (L : List Px) : Prop where
  bx : Blk wr B 24 img0
  hx : Blk wr K 49 #[.int .i64 W, .int .i64 H, .int .i64 D, .int .i64 G, mv]
  ix : Blk wr I 24 (imgC W H (.slice (some ⟨Q, 0, none⟩) N N))
  qx : Blk wr Q 36 (pixA L)
  mx : MRow wr mv ms
  be : Below B w wr
  ne : B < I ∧ B < Q ∧ K < I ∧ K < Q
  iq : I ≠ Q
theorem DLs.below {w wr wr' : World} {B K I Q W H D G N : Nat} {mv : Value} {ms : List Mt} {L : List Px} (h : DLs w wr B K I Q W H D G N mv ms L) (hb : Below wr.heap.size wr wr') : DLs w wr' B K I Q W H D G N mv ms L :=
  ⟨(hb.block _ h.bx.lt).trans h.bx, (hb.block _ h.hx.lt).trans h.hx, (hb.block _ h.ix.lt).trans h.ix, (hb.block _ h.qx.lt).trans h.qx, h.mx.below hb, h.be.trans (hb.mono (Nat.le_of_lt h.bx.lt)), h.ne, h.iq⟩
/-- The first i of n pixels are f's. -/
def fillP (f : Nat → Px) (n i : Nat) : List Px := (List.range i).map f ++ List.replicate (n - i) (0, 0, 0, 0)
theorem fillP_zero (f : Nat → Px) (n : Nat) : fillP f n 0 = List.replicate n (0, 0, 0, 0) := by simp [fillP]
theorem fillP_len (f : Nat → Px) (n i : Nat) (h : i ≤ n) : (fillP f n i).length = n := by simp [fillP]; omega
theorem fillP_step (f : Nat → Px) (n i : Nat) (h : i < n) : (fillP f n i).set i (f i) = fillP f n (i + 1) := by
  unfold fillP
  obtain ⟨m, hm⟩ : ∃ m, n - i = m + 1 := ⟨n - i - 1, by omega⟩
  have hm2 : n - (i + 1) = m := by omega
  have hl : ((List.range i).map f).length = i := by simp
  rw [hm, hm2, List.set_append_right i (f i) (by omega), hl, Nat.sub_self, List.replicate_succ, List.set_cons_zero, List.range_succ, List.map_append, List.append_assoc]
  rfl
theorem fillP_all (f : Nat → Px) (n : Nat) : fillP f n n = (List.range n).map f := by simp [fillP]
theorem pixA_ns (l : List Px) (j : Nat) (s : ByteArray) : (pixA l)[j]? ≠ some (.string s) := by
  intro h
  by_cases hj : j < l.length * 4
  · have e0 := pixA_get l (j / 4) (j % 4) (by omega) (by omega)
    rw [show j / 4 * 4 + j % 4 = j by omega, h] at e0
    cases e0
  · rw [Array.getElem?_eq_none (by rw [pixA_size]; omega)] at h; cases h
theorem mrow_heap {w w' : World} {v : Value} {l : List Mt} {k : Nat} {t : TypeId} {cs : Array Value} (h : MRow w v l) (hb : Blk w k t cs) (hns : ∀ (i : Nat) (s : ByteArray), cs[i]? ≠ some (.string s)) (hw : ∀ j, j ≠ k → w'.heap[j]? = w.heap[j]?) : MRow w' v l := by
  obtain ⟨x, c, rfl, h1, h2, h3, h4⟩ := h
  refine ⟨x, c, rfl, h1, h2, h3, fun hne => ?_⟩
  obtain ⟨b, off, rfl, hc⟩ := h4 hne
  have hbk : b ≠ k := by
    rintro rfl
    have hl : 0 < l.length := List.length_pos_iff.2 hne
    have := (hc 0 hl).1
    rw [hb.cell] at this
    exact hns _ _ this
  have hcell : ∀ o, w'.cell? ⟨b, o, none⟩ = w.cell? ⟨b, o, none⟩ := fun o => by
    simp only [World.cell?, hw b hbk]
  exact ⟨b, off, rfl, fun i hi => ⟨(hcell _).trans (hc i hi).1, (hcell _).trans (hc i hi).2⟩⟩
theorem img0_ns (i : Nat) (s : ByteArray) : img0[i]? ≠ some (.string s) := by
  match i with
  | 0 => simp [img0, imgC]
  | 1 => simp [img0, imgC]
  | 2 => simp [img0, imgC]
  | i + 3 => simp [img0, imgC]
/-- A pixel is stored. -/
theorem DLs.put {w wr : World} {B K I Q W H D G N : Nat} {mv : Value} {ms : List Mt} {L : List Px} (h : DLs w wr B K I Q W H D G N mv ms L) (k : Nat) (hk : k < L.length) (p : Px) :
    DLs w ((((wr.setCell ⟨Q, k * 4, none⟩ (.int .i64 p.1)).setCell ⟨Q, k * 4 + 1, none⟩ (.int .i64 p.2.1)).setCell ⟨Q, k * 4 + 2, none⟩ (.int .i64 p.2.2.1)).setCell ⟨Q, k * 4 + 3, none⟩ (.int .i64 p.2.2.2)) B K I Q W H D G N mv ms (L.set k p) := by
  have hw : ∀ j, j ≠ Q → ((((wr.setCell ⟨Q, k * 4, none⟩ (.int .i64 p.1)).setCell ⟨Q, k * 4 + 1, none⟩ (.int .i64 p.2.1)).setCell ⟨Q, k * 4 + 2, none⟩ (.int .i64 p.2.2.1)).setCell ⟨Q, k * 4 + 3, none⟩ (.int .i64 p.2.2.2)).heap[j]? = wr.heap[j]? := fun j hj =>
    (Below.heap_setCell _ ⟨Q, _, none⟩ _ j hj).trans ((Below.heap_setCell _ ⟨Q, _, none⟩ _ j hj).trans ((Below.heap_setCell _ ⟨Q, _, none⟩ _ j hj).trans (Below.heap_setCell _ ⟨Q, _, none⟩ _ j hj)))
  have hq := (((h.qx.put (k * 4) (.int .i64 p.1)).put (k * 4 + 1) (.int .i64 p.2.1)).put (k * 4 + 2) (.int .i64 p.2.2.1)).put (k * 4 + 3) (.int .i64 p.2.2.2)
  rw [pixA_set L k hk p] at hq
  have n := h.ne
  refine ⟨(hw B (by omega)).trans h.bx, (hw K (by omega)).trans h.hx, (hw I h.iq).trans h.ix, hq, mrow_heap h.mx h.qx (pixA_ns L) hw, ?_, n, h.iq⟩
  exact below_put (below_put (below_put (below_put h.be (p := ⟨Q, _, none⟩) (by show B ≤ Q; omega) _) (p := ⟨Q, _, none⟩) (by show B ≤ Q; omega) _) (p := ⟨Q, _, none⟩) (by show B ≤ Q; omega) _) (p := ⟨Q, _, none⟩) (by show B ≤ Q; omega) _

section
variable {wr w9 : World} {px : Px} {ok : Bool} {i : Nat}
/-- The pixel's own cells, made behind the call. -/
theorem pxAfter (hb : Below wr.drew.heap.size wr.drew w9) : ∃ A : Nat, Value.pointer (some ⟨w9.heap.size, 0, none⟩) = .pointer (some ⟨A, 0, none⟩) ∧ Value.bool ok = .bool ok ∧ Value.int .i64 i = .int .i64 i ∧ Hid (Blk (w9.alloc (.cells #[.int .i64 px.1, .int .i64 px.2.1, .int .i64 px.2.2.1, .int .i64 px.2.2.2] 36)) A 36 (pxC px)) ∧ Hid (Below wr.heap.size wr (w9.alloc (.cells #[.int .i64 px.1, .int .i64 px.2.1, .int .i64 px.2.2.1, .int .i64 px.2.2.2] 36)) ∧ wr.heap.size ≤ A) :=
  ⟨_, rfl, rfl, rfl, Blk.new w9 _ _, below_drew_alloc hb _, hb.size⟩
/-- The pixel's own cells, made ahead of the call. -/
theorem pxBefore (hb : Below (wr.alloc (.cells #[.int .i64 0, .int .i64 0, .int .i64 0, .int .i64 0] 36)).drew.heap.size (wr.alloc (.cells #[.int .i64 0, .int .i64 0, .int .i64 0, .int .i64 0] 36)).drew w9) :
    ∃ A : Nat, Value.pointer (some ⟨wr.heap.size, 0, none⟩) = .pointer (some ⟨A, 0, none⟩) ∧ Value.bool ok = .bool ok ∧ Value.int .i64 i = .int .i64 i ∧ Hid (Blk ((((w9.setCell ⟨wr.heap.size, 0, none⟩ (.int .i64 px.1)).setCell ⟨wr.heap.size, 1, none⟩ (.int .i64 px.2.1)).setCell ⟨wr.heap.size, 2, none⟩ (.int .i64 px.2.2.1)).setCell ⟨wr.heap.size, 3, none⟩ (.int .i64 px.2.2.2)) A 36 (pxC px)) ∧ Hid (Below wr.heap.size wr ((((w9.setCell ⟨wr.heap.size, 0, none⟩ (.int .i64 px.1)).setCell ⟨wr.heap.size, 1, none⟩ (.int .i64 px.2.1)).setCell ⟨wr.heap.size, 2, none⟩ (.int .i64 px.2.2.1)).setCell ⟨wr.heap.size, 3, none⟩ (.int .i64 px.2.2.2)) ∧ wr.heap.size ≤ A) := by
  have hb0 : Blk w9 wr.heap.size 36 (pxC (0, 0, 0, 0)) := (hb.block _ (by simp [World.drew])).trans (Blk.new wr _ _)
  refine ⟨_, rfl, rfl, rfl, (((hb0.put 0 _).put 1 _).put 2 _).put 3 _, ?_, Nat.le_refl _⟩
  exact below_put (below_put (below_put (below_put (below_alloc_drew hb) (p := ⟨wr.heap.size, 0, none⟩) (Nat.le_refl _) _) (p := ⟨wr.heap.size, 1, none⟩) (Nat.le_refl _) _) (p := ⟨wr.heap.size, 2, none⟩) (Nat.le_refl _) _) (p := ⟨wr.heap.size, 3, none⟩) (Nat.le_refl _) _
end

set_option maxHeartbeats 4000000 in
set_option maxRecDepth 100000 in
theorem decode_any (t : ByteArray) (w : World) (ht : t.size ≤ maxLen) : Calls Tryd.prog 9 #[.string t] w fun e w' => DecOk (decP t.data.toList) e w' ∧ Below w.heap.size w w' := by
  have HH := Lib.hid (fun w => readHeader_any t w ht)
  have HD : Hid (decP t.data.toList = match headP t.data.toList with | none => .error 4 | some (w, h, d, g, ms, rest) => bodyP w h d g ms rest) := rfl
  go_enter Tryd.func9, Tryd.ntmps9
  have hb0 := Blk.new w 24 img0
  have hbe0 := (Below.refl w.heap.size w).alloc (Nat.le_refl _) (.cells img0 24)
  go_wp2_with fail
  refine (HH.out _).mono ?_
  rintro e w1 ⟨hok, hb1⟩
  change Blk (w.alloc (.cells #[.int .i64 0, .int .i64 0, .slice none 0 0] 24)) w.heap.size 24 img0 at hb0
  change Below w.heap.size w (w.alloc (.cells #[.int .i64 0, .int .i64 0, .slice none 0 0] 24)) at hbe0
  generalize w.alloc (.cells #[.int .i64 0, .int .i64 0, .slice none 0 0] 24) = wz at *
  have HB1 : Hid (Blk w1 w.heap.size 24 img0) := (hb1.block _ hb0.lt).trans hb0
  have HBE1 : Hid (Below w.heap.size w w1) := hbe0.trans (hb1.mono (by have := hb0.lt; omega))
  clear hb0 hbe0 hb1
  generalize hB : w.heap.size = B at *
  have HB := Lib.hid hB
  clear hB
  generalize headP t.data.toList = hr at *
  match hr, hok with
  | none, hok =>
    obtain rfl : e = .returned hd0V := hok
    have HBX := Lib.hid (HB1.out.alloc (.cells #[.int .i64 0, .int .i64 0, .int .i64 0, .int .i64 0, .slice none 0 0] 49))
    have HBEX := Lib.hid (HBE1.out.alloc (by have := HB1.out.lt; omega) (.cells #[.int .i64 0, .int .i64 0, .int .i64 0, .int .i64 0, .slice none 0 0] 49))
    simp only [hd0V, hdr0, hdrC]
    go_wp2_with (refine wpList_rset_same rfl 24 (.tmp 2) (.tmp 23) rfl rfl B img0 (by rfl) (by rfl) 24 (by exact HBX.out) img0_inf img0_one ?_)
    refine bodyPost_ret (v := errV 4) (results_ctt rfl _ _ B 24 img0 (0, 0) _ _ _ rfl rfl rfl HBX.out Tryd.underlying24 rfl img0_inf) rfl ⟨?_, by rw [HB.out]; exact HBEX.out⟩
    rw [HD.out]; rfl
  | some (W, H, D, G, ms, rest), hok =>
    obtain ⟨mv, rfl, hm⟩ := hok
    simp only [hdrC]
    have HBX := Lib.hid (HB1.out.alloc (.cells #[.int .i64 W, .int .i64 H, .int .i64 D, .int .i64 G, mv] 49))
    have HBEX := Lib.hid (HBE1.out.alloc (by have := HB1.out.lt; omega) (.cells #[.int .i64 W, .int .i64 H, .int .i64 D, .int .i64 G, mv] 49))
    have HHX := Lib.hid (Blk.new w1 49 #[.int .i64 W, .int .i64 H, .int .i64 D, .int .i64 G, mv])
    have HMX := Lib.hid (hm.below ((Below.refl _ _).alloc (Nat.le_refl _) (.cells #[.int .i64 W, .int .i64 H, .int .i64 D, .int .i64 G, mv] 49)))
    have HLT := Lib.hid HB1.out.lt
    obtain ⟨xm, cm, rfl, -⟩ := id hm
    clear hm HB1 HBE1
    go_upto_region 2 with fail
    have HD2 : Hid (decP t.data.toList = bodyP W H D G ms rest) := HD.out
    clear hok HH HD
    generalize w1.alloc (.cells #[.int .i64 W, .int .i64 H, .int .i64 D, .int .i64 G, .slice xm ms.length cm] 49) = wv at *
    obtain ⟨K, hK⟩ : ∃ K, K = w1.heap.size := ⟨_, rfl⟩
    rw [← hK] at HHX HLT ⊢
    clear hK
    have x0 : wv.cell? ⟨K, 0, none⟩ = some (.int .i64 W) := HHX.out.cell 0
    have x1 : wv.cell? ⟨K, 1, none⟩ = some (.int .i64 H) := HHX.out.cell 1
    have x2 : wv.cell? ⟨K, 2, none⟩ = some (.int .i64 D) := HHX.out.cell 2
    have x3 : wv.cell? ⟨K, 3, none⟩ = some (.int .i64 G) := HHX.out.cell 3
    by_cases hW1 : W < 1
    · have d1 : decide ((W : Int) < 1) = true := by simp; omega
      have HF : Hid (decP t.data.toList = .error 15) := by show _ = _; rw [HD2.out]; unfold bodyP; rw [if_pos (by omega)]
      go_wp2_with (refine wpList_rset_same rfl 24 (.tmp 2) (.tmp 42) rfl rfl B img0 (by rfl) (by rfl) 24 (by exact HBX.out) img0_inf img0_one ?_)
      refine bodyPost_ret (v := errV 15) (results_ctt rfl _ _ B 24 img0 (0, 0) _ _ _ rfl rfl rfl HBX.out Tryd.underlying24 rfl img0_inf) rfl ⟨?_, by rw [HB.out]; exact HBEX.out⟩
      rw [HF.out]; rfl
    have d1 : decide ((W : Int) < 1) = false := by simp; omega
    by_cases hW2 : 256 < W
    · have d2 : decide ((256 : Int) < (W : Int)) = true := by simp; omega
      have HF : Hid (decP t.data.toList = .error 15) := by show _ = _; rw [HD2.out]; unfold bodyP; rw [if_pos (by omega)]
      go_wp2_with (refine wpList_rset_same rfl 24 (.tmp 2) (.tmp 42) rfl rfl B img0 (by rfl) (by rfl) 24 (by exact HBX.out) img0_inf img0_one ?_)
      refine bodyPost_ret (v := errV 15) (results_ctt rfl _ _ B 24 img0 (0, 0) _ _ _ rfl rfl rfl HBX.out Tryd.underlying24 rfl img0_inf) rfl ⟨?_, by rw [HB.out]; exact HBEX.out⟩
      rw [HF.out]; rfl
    have d2 : decide ((256 : Int) < (W : Int)) = false := by simp; omega
    by_cases hH1 : H < 1
    · have d3 : decide ((H : Int) < 1) = true := by simp; omega
      have HF : Hid (decP t.data.toList = .error 15) := by show _ = _; rw [HD2.out]; unfold bodyP; rw [if_pos (by omega)]
      go_wp2_with (refine wpList_rset_same rfl 24 (.tmp 2) (.tmp 42) rfl rfl B img0 (by rfl) (by rfl) 24 (by exact HBX.out) img0_inf img0_one ?_)
      refine bodyPost_ret (v := errV 15) (results_ctt rfl _ _ B 24 img0 (0, 0) _ _ _ rfl rfl rfl HBX.out Tryd.underlying24 rfl img0_inf) rfl ⟨?_, by rw [HB.out]; exact HBEX.out⟩
      rw [HF.out]; rfl
    have d3 : decide ((H : Int) < 1) = false := by simp; omega
    by_cases hH2 : 256 < H
    · have d4 : decide ((256 : Int) < (H : Int)) = true := by simp; omega
      have HF : Hid (decP t.data.toList = .error 15) := by show _ = _; rw [HD2.out]; unfold bodyP; rw [if_pos (by omega)]
      go_wp2_with (refine wpList_rset_same rfl 24 (.tmp 2) (.tmp 42) rfl rfl B img0 (by rfl) (by rfl) 24 (by exact HBX.out) img0_inf img0_one ?_)
      refine bodyPost_ret (v := errV 15) (results_ctt rfl _ _ B 24 img0 (0, 0) _ _ _ rfl rfl rfl HBX.out Tryd.underlying24 rfl img0_inf) rfl ⟨?_, by rw [HB.out]; exact HBEX.out⟩
      rw [HF.out]; rfl
    have d4 : decide ((256 : Int) < (H : Int)) = false := by simp; omega
    go_upto_region 6 with fail
    clear d1 d2 d3 d4
    by_cases hD1 : D < 1
    · have d1 : decide ((D : Int) < 1) = true := by simp; omega
      have HF : Hid (decP t.data.toList = .error 2) := by show _ = _; rw [HD2.out]; unfold bodyP; rw [if_neg (by omega), if_pos (by omega)]
      go_wp2_with (refine wpList_rset_same rfl 24 (.tmp 2) (.tmp 61) rfl rfl B img0 (by rfl) (by rfl) 24 (by exact HBX.out) img0_inf img0_one ?_)
      refine bodyPost_ret (v := errV 2) (results_ctt rfl _ _ B 24 img0 (0, 0) _ _ _ rfl rfl rfl HBX.out Tryd.underlying24 rfl img0_inf) rfl ⟨?_, by rw [HB.out]; exact HBEX.out⟩
      rw [HF.out]; rfl
    have d1 : decide ((D : Int) < 1) = false := by simp; omega
    by_cases hD2 : 4 < D
    · have d2 : decide ((4 : Int) < (D : Int)) = true := by simp; omega
      have HF : Hid (decP t.data.toList = .error 2) := by show _ = _; rw [HD2.out]; unfold bodyP; rw [if_neg (by omega), if_pos (by omega)]
      go_wp2_with (refine wpList_rset_same rfl 24 (.tmp 2) (.tmp 61) rfl rfl B img0 (by rfl) (by rfl) 24 (by exact HBX.out) img0_inf img0_one ?_)
      refine bodyPost_ret (v := errV 2) (results_ctt rfl _ _ B 24 img0 (0, 0) _ _ _ rfl rfl rfl HBX.out Tryd.underlying24 rfl img0_inf) rfl ⟨?_, by rw [HB.out]; exact HBEX.out⟩
      rw [HF.out]; rfl
    have d2 : decide ((4 : Int) < (D : Int)) = false := by simp; omega
    by_cases hG1 : G < 1
    · have d3 : decide ((G : Int) < 1) = true := by simp; omega
      have HF : Hid (decP t.data.toList = .error 2) := by show _ = _; rw [HD2.out]; unfold bodyP; rw [if_neg (by omega), if_pos (by omega)]
      go_wp2_with (refine wpList_rset_same rfl 24 (.tmp 2) (.tmp 61) rfl rfl B img0 (by rfl) (by rfl) 24 (by exact HBX.out) img0_inf img0_one ?_)
      refine bodyPost_ret (v := errV 2) (results_ctt rfl _ _ B 24 img0 (0, 0) _ _ _ rfl rfl rfl HBX.out Tryd.underlying24 rfl img0_inf) rfl ⟨?_, by rw [HB.out]; exact HBEX.out⟩
      rw [HF.out]; rfl
    have d3 : decide ((G : Int) < 1) = false := by simp; omega
    by_cases hG2 : 65535 < G
    · have d4 : decide ((65535 : Int) < (G : Int)) = true := by simp; omega
      have HF : Hid (decP t.data.toList = .error 2) := by show _ = _; rw [HD2.out]; unfold bodyP; rw [if_neg (by omega), if_pos (by omega)]
      go_wp2_with (refine wpList_rset_same rfl 24 (.tmp 2) (.tmp 61) rfl rfl B img0 (by rfl) (by rfl) 24 (by exact HBX.out) img0_inf img0_one ?_)
      refine bodyPost_ret (v := errV 2) (results_ctt rfl _ _ B 24 img0 (0, 0) _ _ _ rfl rfl rfl HBX.out Tryd.underlying24 rfl img0_inf) rfl ⟨?_, by rw [HB.out]; exact HBEX.out⟩
      rw [HF.out]; rfl
    have d4 : decide ((65535 : Int) < (G : Int)) = false := by simp; omega
    go_upto_region 8 with fail
    clear d1 d2 d3 d4
    obtain ⟨RS, hRS⟩ : ∃ T : ByteArray, T = ⟨rest.toArray⟩ := ⟨_, rfl⟩
    have HRL : Hid (RS.data.toList = rest) := by show _ = _; rw [hRS]
    have hRSs : RS.size = rest.length := by rw [hRS, ba_len]
    rw [← hRS]
    clear hRS
    have HRSS := Lib.hid hRSs
    clear hRSs
    obtain ⟨N, hN, hN2, hN3⟩ : ∃ N, N = W * H ∧ N ≤ 65536 ∧ 1 ≤ N := by
      refine ⟨_, rfl, ?_, ?_⟩
      · have := Nat.mul_le_mul (show W ≤ 256 by omega) (show H ≤ 256 by omega); omega
      · have := Nat.mul_le_mul (show 1 ≤ W by omega) (show 1 ≤ H by omega); omega
    have n1 : IntKind.i64.wrap ((W : Int) * (H : Int)) = (N : Int) := by
      have e : (W : Int) * (H : Int) = (N : Int) := by rw [hN, Int.natCast_mul]
      rw [e]; exact IntWalk.i64_in _ (by omega)
    have HMK := Lib.hid (fun w => run_mkpix N (by omega) w)
    have hbd : decP t.data.toList = if rest.length < N * (D * (if 255 < G then 2 else 1)) then .error 5 else if N * (D * (if 255 < G then 2 else 1)) < rest.length then .error 6 else if pixOk (decide (255 < G)) D G (D * (if 255 < G then 2 else 1)) N rest = true then .ok (W, H, pixL (decide (255 < G)) D G (D * (if 255 < G then 2 else 1)) N rest, ms) else .error 2 := by
      rw [HD2.out]; unfold bodyP; rw [if_neg (by omega), if_neg (by omega), ← hN]
    clear hN HD2
    obtain ⟨two, htwo⟩ : ∃ two, two = decide (255 < G) := ⟨_, rfl⟩
    obtain ⟨BY, hBY⟩ : ∃ BY, BY = if 255 < G then 2 else 1 := ⟨_, rfl⟩
    rw [← htwo, ← hBY] at hbd
    have HTB : Hid (BY = if two = true then 2 else 1) := by show _ = _; rw [hBY, htwo]; by_cases h : 255 < G <;> simp [h]
    have hb12 : 1 ≤ BY ∧ BY ≤ 2 := by rw [hBY]; split <;> omega
    obtain ⟨SZ, hSZ⟩ : ∃ SZ, SZ = D * BY := ⟨_, rfl⟩
    rw [← hSZ] at hbd
    have s0 : 1 ≤ SZ ∧ SZ ≤ 8 := by
      have h1 := Nat.mul_le_mul (show D ≤ 4 by omega) hb12.2
      have h2 := Nat.mul_le_mul (show 1 ≤ D by omega) hb12.1
      omega
    have s1 : IntKind.i64.wrap ((D : Int) * (BY : Int)) = (SZ : Int) := by
      have e : (D : Int) * (BY : Int) = (SZ : Int) := by rw [hSZ, Int.natCast_mul]
      rw [e]; exact IntWalk.i64_in _ (by omega)
    obtain ⟨ND, hND, hND2⟩ : ∃ ND, ND = N * SZ ∧ ND ≤ 524288 := by
      refine ⟨_, rfl, ?_⟩
      have := Nat.mul_le_mul hN2 s0.2; omega
    rw [← hND] at hbd
    have s2 : IntKind.i64.wrap ((N : Int) * (SZ : Int)) = (ND : Int) := by
      have e : (N : Int) * (SZ : Int) = (ND : Int) := by rw [hND, Int.natCast_mul]
      rw [e]; exact IntWalk.i64_in _ (by omega)
    have HBD := Lib.hid hbd
    have HSZ := Lib.hid hSZ
    have HND := Lib.hid hND
    have HBY := Lib.hid hBY
    have HTW := Lib.hid htwo
    clear hbd hSZ hND hBY htwo
    go_upto_if 64 with fail
    go_cut [8] from 15 (fun v8 wx => v8 = .int .i64 (BY : Nat) ∧ wx = wv)
    case first =>
      by_cases h255 : 255 < G
      · have d255 : decide ((255 : Int) < (G : Int)) = true := by simp; omega
        go_wp2_with fail
        go_meet
        case rel => exact ⟨by rw [HBY.out, if_pos h255]; rfl, rfl⟩
      · have d255 : decide ((255 : Int) < (G : Int)) = false := by simp; omega
        go_wp2_with fail
        go_meet
        case rel => exact ⟨by rw [HBY.out, if_neg h255]; rfl, rfl⟩
    case rest =>
      obtain ⟨rfl, hwc⟩ := hcut
      rw [hwc]
      clear hwc wc
      go_upto_region 13 with fail
      by_cases hsh : RS.size < ND
      · have HF : Hid (decP t.data.toList = .error 5) := by show _ = _; rw [HBD.out, if_pos (by rw [← HRSS.out]; exact hsh)]
        go_wp2_with (refine wpList_rset_same rfl 24 (.tmp 2) (.tmp 80) rfl rfl B img0 (by rfl) (by rfl) 24 (by exact HBX.out) img0_inf img0_one ?_)
        refine bodyPost_ret (v := errV 5) (results_ctt rfl _ _ B 24 img0 (0, 0) _ _ _ rfl rfl rfl HBX.out Tryd.underlying24 rfl img0_inf) rfl ⟨?_, by rw [HB.out]; exact HBEX.out⟩
        rw [HF.out]; rfl
      by_cases hex : ND < RS.size
      · have HF : Hid (decP t.data.toList = .error 6) := by show _ = _; rw [HBD.out, if_neg (by rw [← HRSS.out]; exact hsh), if_pos (by rw [← HRSS.out]; exact hex)]
        go_wp2_with (refine wpList_rset_same rfl 24 (.tmp 2) (.tmp 85) rfl rfl B img0 (by rfl) (by rfl) 24 (by exact HBX.out) img0_inf img0_one ?_)
        refine bodyPost_ret (v := errV 6) (results_ctt rfl _ _ B 24 img0 (0, 0) _ _ _ rfl rfl rfl HBX.out Tryd.underlying24 rfl img0_inf) rfl ⟨?_, by rw [HB.out]; exact HBEX.out⟩
        rw [HF.out]; rfl
      have hbd2 : decP t.data.toList = if pixOk two D G SZ N rest = true then .ok (W, H, pixL two D G SZ N rest, ms) else .error 2 := by
        rw [HBD.out, if_neg (by rw [← HRSS.out]; exact hsh), if_neg (by rw [← HRSS.out]; exact hex)]
      have HBD2 := Lib.hid hbd2
      clear hbd2 HBD
      go_upto_region 17 with fail
      have hsz : RS.size = ND := by omega
      have HRSZ := Lib.hid hsz
      clear hsh hex hsz
      go_cut [11] from 15 (fun v11 wx => ∃ I Q : Nat, v11 = .pointer (some ⟨I, 0, none⟩) ∧ Hid (Blk wx I 24 (imgC W H (.slice (some ⟨Q, 0, none⟩) N N))) ∧ Hid (Blk wx Q 36 (pixA (List.replicate N (0, 0, 0, 0)))) ∧ Hid (Below wv.heap.size wv wx ∧ wv.heap.size ≤ I ∧ wv.heap.size ≤ Q))
      case first =>
        have mk := HMK.out
        have x0a : ∀ o, (wv.alloc o).cell? ⟨K, 0, none⟩ = some (.int .i64 W) := fun o => (HHX.out.alloc o).cell 0
        have x1a : ∀ o, (wv.alloc o).cell? ⟨K, 1, none⟩ = some (.int .i64 H) := fun o => (HHX.out.alloc o).cell 1
        have x0b : ∀ o p, ((wv.alloc o).alloc p).cell? ⟨K, 0, none⟩ = some (.int .i64 W) := fun o p => ((HHX.out.alloc o).alloc p).cell 0
        have x1b : ∀ o p, ((wv.alloc o).alloc p).cell? ⟨K, 1, none⟩ = some (.int .i64 H) := fun o p => ((HHX.out.alloc o).alloc p).cell 1
        go_region
        all_goals
          go_wp2_with fail
          go_meet
          case rel =>
            first
            | exact ⟨wv.heap.size + 1, wv.heap.size, rfl, (Blk.new_at (by simp) _ _).drew, ((Blk.new wv _ _).alloc _).drew, (((Below.refl wv.heap.size wv).alloc (Nat.le_refl _) _).alloc (by simp) _).drew, by omega, by omega⟩
            | exact ⟨wv.heap.size, wv.heap.size + 1, rfl, ((Blk.new wv _ _).alloc _).drew, (Blk.new_at (by simp) _ _).drew, (((Below.refl wv.heap.size wv).alloc (Nat.le_refl _) _).alloc (by simp) _).drew, by omega, by omega⟩
      case rest =>
        obtain ⟨I, Q, rfl, hbI, hbQ, hbc⟩ := hcut
        obtain ⟨hbc1, hI, hQ⟩ := hbc.out
        have HBX2 : Hid (Blk wc B 24 img0) := (hbc1.block _ HBX.out.lt).trans HBX.out
        have HHX2 : Hid (Blk wc K 49 #[.int .i64 W, .int .i64 H, .int .i64 D, .int .i64 G, .slice xm ms.length cm]) := (hbc1.block _ HHX.out.lt).trans HHX.out
        have HMX2 := Lib.hid (HMX.out.below hbc1)
        have HBEX2 : Hid (Below B w wc) := HBEX.out.trans (hbc1.mono (by have := HBX.out.lt; omega))
        have HNE : Hid (B < I ∧ B < Q ∧ K < I ∧ K < Q) := by
          have h1 := HBX.out.lt
          have h2 := HHX.out.lt
          exact ⟨by omega, by omega, by omega, by omega⟩
        clear hbc hbc1 hI hQ HBX HHX HMX HBEX x0 x1 x2 x3 n1 s1 s2 HMK
        have i2 : wc.cell? ⟨I, 2, none⟩ = some (.slice (some ⟨Q, 0, none⟩) N N) := hbI.out.cell 2
        have hIQ : I ≠ Q := Blk.apart hbI.out hbQ.out (by decide)
        have HDL : Hid (DLs w wc B K I Q W H D G N (.slice xm ms.length cm) ms (List.replicate N (0, 0, 0, 0))) := ⟨HBX2.out, HHX2.out, hbI.out, hbQ.out, HMX2.out, HBEX2.out, HNE.out, hIQ⟩
        clear HBX2 HHX2 HMX2 HBEX2 HNE hbI hbQ hIQ
        go_wp2_with fail
        clear i2
        go_loopw [100] (fun vi wr => ∃ i : Nat, vi = .int .i64 i ∧ i ≤ N ∧ Hid (DLs w wr B K I Q W H D G N (.slice xm ms.length cm) ms (fillP (fun k => pxS two D G (chunk SZ rest k)) N i)) ∧ Hid (∀ j, j < i → okS two D G (chunk SZ rest j) = true)) (fun vi _ => N - (intOf vi).toNat)
        case atStart => exact ⟨0, rfl, Nat.zero_le _, by show DLs _ _ _ _ _ _ _ _ _ _ _ _ _ _; rw [fillP_zero]; exact HDL.out, fun j h => absurd h (by omega)⟩
        case round =>
          clear HDL
          obtain ⟨i, rfl, hi, hdl, hoks⟩ := hrel
          by_cases hlt : i < N
          · have dlt : decide ((i : Int) < (N : Int)) = true := by simp; omega
            go_upto_region 21 with fail
            obtain ⟨P0, P1, hP0, hP1⟩ : ∃ P0 P1, P0 = i * SZ ∧ P1 = (i + 1) * SZ := ⟨_, _, rfl, rfl⟩
            have hP01 : P1 = P0 + SZ := by rw [hP1, hP0, Nat.add_mul, Nat.one_mul]
            have hP1N : P1 ≤ ND := by rw [hP1, HND.out]; exact Nat.mul_le_mul_right _ hlt
            have w0 : IntKind.i64.wrap ((i : Int) * (SZ : Int)) = (P0 : Int) := by
              have e : (i : Int) * (SZ : Int) = (P0 : Int) := by rw [hP0, Int.natCast_mul]
              rw [e]; exact IntWalk.i64_in _ (by omega)
            have w1' : IntKind.i64.wrap (((i : Int) + 1) * (SZ : Int)) = (P1 : Int) := by
              have e : ((i : Int) + 1) * (SZ : Int) = (P1 : Int) := by rw [hP1, Int.natCast_mul, Int.natCast_add]; rfl
              rw [e]; exact IntWalk.i64_in _ (by omega)
            have wi : IntKind.i64.wrap ((i : Int) + 1) = (i : Int) + 1 := IntWalk.i64_in _ (by omega)
            have r0 : (P0 : Int) ≤ (P1 : Int) := by omega
            have r00 : (0 : Int) ≤ (P0 : Int) := by omega
            have r01 : (0 : Int) ≤ (P1 : Int) := by omega
            have r1 : (P1 : Int) ≤ (RS.size : Int) := by have := HRSZ.out; omega
            have HXL : Hid ((RS.extract P0 P1).data.toList = chunk SZ rest i) := by
              show _ = _
              rw [extract_list, HRL.out]
              unfold chunk
              rw [← hP0, hP01, List.drop_take, Nat.add_sub_cancel_left]
            have HXS : Hid ((RS.extract P0 P1).size = if two = true then D * 2 else D) := by
              show _ = _
              rw [ByteArray.size_extract]
              have h1 := HRSZ.out
              have h2 : SZ = if two = true then D * 2 else D := by rw [HSZ.out, HTB.out]; split <;> omega
              rw [← h2]; omega
            have hRP := fun wx => readPixel_any (RS.extract P0 P1) two D G wx (by omega) (by omega) (by omega) (by omega) HXS.out
            obtain ⟨px, ok, hpx, hokpx⟩ : ∃ (px : Px) (ok : Bool), pxV two D G (chunk SZ rest i) = .tuple #[.agg (pxC px), .bool ok] ∧ okS two D G (chunk SZ rest i) = ok ∧ (ok = true → px = pxS two D G (chunk SZ rest i)) := by
              unfold pxV
              cases h : okS two D G (chunk SZ rest i) with
              | true => exact ⟨_, true, by rw [if_pos rfl], rfl, fun _ => rfl⟩
              | false => exact ⟨(0, 0, 0, 0), false, by rw [if_neg (by decide)], rfl, fun h => by cases h⟩
            rw [HXL.out, hpx] at hRP
            have HRP := Lib.hid hRP
            have HOK := Lib.hid hokpx
            clear hRP hokpx hpx hP0 hP1 hP01 hP1N
            go_cut [13, 14, 100] from 100 to 128 (fun v13 v14 v100 wx => ∃ A : Nat, v13 = .pointer (some ⟨A, 0, none⟩) ∧ v14 = .bool ok ∧ v100 = .int .i64 i ∧ Hid (Blk wx A 36 (pxC px)) ∧ Hid (Below wr.heap.size wr wx ∧ wr.heap.size ≤ A))
            case first =>
              have x2 : wr.cell? ⟨K, 2, none⟩ = some (.int .i64 D) := hdl.out.hx.cell 2
              have x3 : wr.cell? ⟨K, 3, none⟩ = some (.int .i64 G) := hdl.out.hx.cell 3
              have x2a : ∀ o, (wr.alloc o).cell? ⟨K, 2, none⟩ = some (.int .i64 D) := fun o => (hdl.out.hx.alloc o).cell 2
              have x3a : ∀ o, (wr.alloc o).cell? ⟨K, 3, none⟩ = some (.int .i64 G) := fun o => (hdl.out.hx.alloc o).cell 3
              unfold pxC at HRP
              go_region_with (go_at_call 23; refine (HRP.out _).mono ?_; rintro e w9 ⟨rfl, hb9⟩; obtain ⟨hcA, hfA⟩ := bcell hb9)
              all_goals
                go_wp2_with fail
                go_meet
                case rel =>
                  first
                  | with_reducible exact pxAfter hb9
                  | with_reducible exact pxBefore hb9
            case rest =>
              obtain ⟨A, rfl, rfl, rfl, hbA, hbc⟩ := hcut
              have hdl2 := Lib.hid (hdl.out.below hbc.out.1)
              have HAL : Hid (∀ k, k = B ∨ k = K ∨ k = I ∨ k = Q → k ≠ A) := by
                have h0 := hbc.out.2
                have h1 := hdl.out.bx.lt
                have h2 := hdl.out.hx.lt
                have h3 := hdl.out.ix.lt
                have h4 := hdl.out.qx.lt
                intro k hk; omega
              clear hdl hbc w0 w1' wi r0 r1 r00 r01 HRP
              cases ok with
              | false =>
                have HF : Hid (decP t.data.toList = .error 2) := by
                  show _ = _
                  rw [HBD2.out, if_neg]
                  intro h
                  have := List.all_eq_true.1 h i (List.mem_range.2 hlt)
                  rw [HOK.out.1] at this; cases this
                go_wp2_with (refine wpList_rset_same rfl 24 (.tmp 2) (.tmp 122) rfl rfl B img0 (by rfl) (by rfl) 24 (by exact hdl2.out.bx) img0_inf img0_one ?_)
                refine bodyPost_ret (v := errV 2) (results_ctt rfl _ _ B 24 img0 (0, 0) _ _ _ rfl rfl rfl hdl2.out.bx Tryd.underlying24 rfl img0_inf) rfl ⟨?_, by rw [HB.out]; exact hdl2.out.be⟩
                rw [HF.out]; rfl
              | true =>
                obtain ⟨p0, p1, p2, p3⟩ := px
                have i2 : wc.cell? ⟨I, 2, none⟩ = some (.slice (some ⟨Q, 0, none⟩) N N) := hdl2.out.ix.cell 2
                have a0 : wc.cell? ⟨A, 0, none⟩ = some (.int .i64 p0) := hbA.out.cell 0
                have a1 : wc.cell? ⟨A, 1, none⟩ = some (.int .i64 p1) := hbA.out.cell 1
                have a2 : wc.cell? ⟨A, 2, none⟩ = some (.int .i64 p2) := hbA.out.cell 2
                have a3 : wc.cell? ⟨A, 3, none⟩ = some (.int .i64 p3) := hbA.out.cell 3
                have hfl := fillP_len (fun k => pxS two D G (chunk SZ rest k)) N i hi
                have q0 := fun j hj => (hdl2.out.qx.cell (i * 4 + j)).trans (pixA_get _ i j (by rw [hfl]; exact hlt) hj)
                obtain ⟨v0, c0⟩ : ∃ v, wc.cell? ⟨Q, i * 4, none⟩ = some v := ⟨_, q0 0 (by decide)⟩
                obtain ⟨v1, c1⟩ : ∃ v, wc.cell? ⟨Q, i * 4 + 1, none⟩ = some v := ⟨_, q0 1 (by decide)⟩
                obtain ⟨v2, c2⟩ : ∃ v, wc.cell? ⟨Q, i * 4 + 2, none⟩ = some v := ⟨_, q0 2 (by decide)⟩
                obtain ⟨v3, c3⟩ : ∃ v, wc.cell? ⟨Q, i * 4 + 3, none⟩ = some v := ⟨_, q0 3 (by decide)⟩
                have f0 := hdl2.out.qx.frozen (i * 4)
                have f1 := hdl2.out.qx.frozen (i * 4 + 1)
                have f2 := hdl2.out.qx.frozen (i * 4 + 2)
                have f3 := hdl2.out.qx.frozen (i * 4 + 3)
                have i1 : (i : Int) < (N : Int) := by omega
                have i0 : (0 : Int) ≤ (i : Int) := by omega
                have hl : (fillP (fun k => pxS two D G (chunk SZ rest k)) N i).set i (p0, p1, p2, p3) = fillP (fun k => pxS two D G (chunk SZ rest k)) N (i + 1) := by
                  rw [HOK.out.2 rfl]; exact fillP_step (fun k => pxS two D G (chunk SZ rest k)) N i hlt
                have hput := hdl2.out.put i (by rw [hfl]; exact hlt) (p0, p1, p2, p3)
                rw [hl] at hput
                have HPUT := Lib.hid hput
                clear q0 hfl hput hl
                go_wp2_with fail
                go_roundw
                case rel =>
                  refine ⟨i + 1, by go_num, by omega, HPUT, fun j hj => ?_⟩
                  by_cases hji : j = i
                  · subst hji; exact HOK.out.1
                  · exact hoks.out j (by omega)
                case measure => simp [intOf]; omega
          · have dlt : decide ((i : Int) < (N : Int)) = false := by simp; omega
            have hiN : i = N := by omega
            subst hiN
            have HF : Hid (decP t.data.toList = .ok (W, H, pixL two D G SZ i rest, ms)) := by
              show _ = _
              rw [HBD2.out, if_pos]
              exact List.all_eq_true.2 fun j hj => hoks.out j (List.mem_range.1 hj)
            have HLL : Hid (fillP (fun k => pxS two D G (chunk SZ rest k)) i i = pixL two D G SZ i rest) := fillP_all _ _
            rw [HLL.out] at hdl
            clear HLL HBD2 hoks
            have o := hdl.out
            have y0 : wr.cell? ⟨I, 0, none⟩ = some (.int .i64 W) := o.ix.cell 0
            have y1 : wr.cell? ⟨I, 1, none⟩ = some (.int .i64 H) := o.ix.cell 1
            have y2 : wr.cell? ⟨I, 2, none⟩ = some (.slice (some ⟨Q, 0, none⟩) i i) := o.ix.cell 2
            have z0 : wr.cell? ⟨B, 0, none⟩ = some (.int .i64 0) := o.bx.cell 0
            have z1 : wr.cell? ⟨B, 1, none⟩ = some (.int .i64 0) := o.bx.cell 1
            have z2 : wr.cell? ⟨B, 2, none⟩ = some (.slice none 0 0) := o.bx.cell 2
            have f0 := o.bx.frozen 0
            have f1 := o.bx.frozen 1
            have f2 := o.bx.frozen 2
            have k4 : wr.cell? ⟨K, 4, none⟩ = some (.slice xm ms.length cm) := o.hx.cell 4
            have hKB : ¬ K = B := by have := HLT.out; omega
            have hBK : ¬ B = K := by have := HLT.out; omega
            have HW := Lib.hid (fun j (hj : j ≠ B) => ((Below.heap_setCell ((wr.setCell ⟨B, 0, none⟩ (.int .i64 W)).setCell ⟨B, 1, none⟩ (.int .i64 H)) ⟨B, 2, none⟩ (.slice (some ⟨Q, 0, none⟩) i i) j hj).trans ((Below.heap_setCell (wr.setCell ⟨B, 0, none⟩ (.int .i64 W)) ⟨B, 1, none⟩ (.int .i64 H) j hj).trans (Below.heap_setCell wr ⟨B, 0, none⟩ (.int .i64 W) j hj))))
            clear o
            go_upto_region 26 with fail
            go_region
            have hz : Blk ((((wr.setCell ⟨B, 0, none⟩ (.int .i64 W)).setCell ⟨B, 1, none⟩ (.int .i64 H)).setCell ⟨B, 2, none⟩ (.slice (some ⟨Q, 0, none⟩) i i))).drew B 24 (imgC W H (.slice (some ⟨Q, 0, none⟩) i i)) := (((hdl.out.bx.put 0 _).put 1 _).put 2 _).drew
            have hbz := (below_put (below_put (below_put hdl.out.be (p := ⟨B, 0, none⟩) (Nat.le_refl _) (.int .i64 W)) (p := ⟨B, 1, none⟩) (Nat.le_refl _) (.int .i64 H)) (p := ⟨B, 2, none⟩) (Nat.le_refl _) (.slice (some ⟨Q, 0, none⟩) i i)).drew
            have hmz : MRow (((wr.setCell ⟨B, 0, none⟩ (.int .i64 W)).setCell ⟨B, 1, none⟩ (.int .i64 H)).setCell ⟨B, 2, none⟩ (.slice (some ⟨Q, 0, none⟩) i i)).drew (.slice xm ms.length cm) ms := (mrow_heap hdl.out.mx hdl.out.bx img0_ns HW.out).drewN 1
            have hqz : Blk (((wr.setCell ⟨B, 0, none⟩ (.int .i64 W)).setCell ⟨B, 1, none⟩ (.int .i64 H)).setCell ⟨B, 2, none⟩ (.slice (some ⟨Q, 0, none⟩) i i)).drew Q 36 (pixA (pixL two D G SZ i rest)) := (HW.out Q (by have := hdl.out.ne; omega)).trans hdl.out.qx
            have hll : (pixL two D G SZ i rest).length = i := by simp [pixL]
            have hpz := hqz.prow i (by rw [hll]; exact Nat.le_refl _) (by unfold maxLen; omega)
            rw [hll] at hpz
            have HZ := Lib.hid hz
            have HBZ := Lib.hid hbz
            have HMZ := Lib.hid hmz
            have HPZ := Lib.hid hpz
            clear y0 y1 y2 z0 z1 z2 f0 f1 f2 k4 hz hbz hmz hqz hpz HW
            generalize (((wr.setCell ⟨B, 0, none⟩ (.int .i64 W)).setCell ⟨B, 1, none⟩ (.int .i64 H)).setCell ⟨B, 2, none⟩ (.slice (some ⟨Q, 0, none⟩) i i)).drew = wy at *
            go_wp2_with fail
            refine bodyPost_ret (v := .tuple #[.agg (imgC W H (.slice (some ⟨Q, 0, none⟩) i i)), .slice xm ms.length cm, .int .i64 0]) (results_ctt rfl _ _ B 24 (imgC W H (.slice (some ⟨Q, 0, none⟩) i i)) (0, 0) _ _ _ rfl rfl rfl HZ.out Tryd.underlying24 rfl (imgC_inf _ _ _)) rfl ⟨?_, by rw [HB.out]; exact HBZ.out⟩
            rw [HF.out]
            exact ⟨_, _, rfl, HPZ.out, HMZ.out⟩
end Go.Proofs.YtakkdgcmeeilbaaDoor
