/-
  Walks: Decode, in the reference of pam.
-/
import Derived.Test.YtakkdgcmeeilbaaR5
import Derived.Test.YtakkdgcmeeilbaaRd
import Derived.Test.YtakkdgcmeeilbaaP11
namespace Go.Proofs.Ytakkdgcmeeilbaa
open Go.RowKit

def zcells (l : List Int) : List Value := l.map fun n => Value.int .i64 n
theorem zcells_append (a b : List Int) : zcells (a ++ b) = zcells a ++ zcells b := by simp [zcells]
theorem zcells_get (l : List Int) (i : Nat) (h : i < l.length) : (zcells l)[i]? = some (.int .i64 l[i]) := by simp [zcells, h]
/-- The slice value v owns a row of integers, from block base on. -/
def ZRow (w : World) (base : Nat) (v : Value) (l : List Int) : Prop := w.ownsRow base 3 1 v l.length (zcells l)
theorem el_intZ : Elem Try.prog 48 3 (.int .i64 0) 1 8 := by
  refine ⟨Try.underlying48, ?_, rfl, by decide⟩
  exact info_parts (by kernel_rfl)
theorem zrow_more {w : World} {base : Nat} {v : Value} {n : Nat} {l : List Int} {xs : List Value} (h : w.ownsRow base 3 1 v n (zcells l ++ xs)) (new : List Int) (hx : xs = zcells new) (hn : n = l.length + new.length) : ZRow w base v (l ++ new) := by
  subst hx; subst hn
  unfold ZRow
  rw [zcells_append, List.length_append]
  exact h
theorem zrow_shape {w : World} {b : Nat} {v : Value} {l : List Int} (h : ZRow w b v l) : ∃ x c, v = .slice x l.length c := by
  rcases h.2 with ⟨rfl, h0⟩ | ⟨g, cap, cur, rfl, _⟩
  · exact ⟨none, 0, by rw [h0]⟩
  · exact ⟨_, _, rfl⟩
theorem zrow_zero {w : World} {B b : Nat} (hb : b = w.heap.size) (hB : B ≤ b) : ZRow (w.alloc (.cells #[] 3)) B (.slice (some ⟨b, 0, none⟩) 0 0) [] := by
  subst hb
  exact ⟨rfl, .inr ⟨_, 0, #[], rfl, hB, Blk.new w _ _, Nat.le_refl _, by unfold maxLen; omega, rfl, rfl⟩⟩
theorem zrow_read {w : World} {b : Nat} {v : Value} {l : List Int} (h : ZRow w b v l) (hl : 1 ≤ l.length) : ∃ g c, v = .slice (some ⟨g, 0, none⟩) l.length c ∧ ∀ j (hj : j < l.length), w.cell? ⟨g, j, none⟩ = some (.int .i64 l[j]) := by
  rcases h.2 with ⟨rfl, h0⟩ | ⟨g, cap, cur, rfl, _⟩
  · omega
  · refine ⟨g, cap, rfl, fun j hj => ?_⟩
    have := World.ownsRow.cells h (g := g) rfl j _ (zcells_get l j hj)
    rw [Addr.add_lit] at this
    simpa using this

def pcells (l : List Px) : List Value := (pixA l).toList
theorem pcells_append (a b : List Px) : pcells (a ++ b) = pcells a ++ pcells b := by simp [pcells, pixA]
/-- The slice value v owns a row of pixels, from block base on. -/
def POwn (w : World) (base : Nat) (v : Value) (l : List Px) : Prop := w.ownsRow base 40 4 v l.length (pcells l)
theorem pown_more {w : World} {base : Nat} {v : Value} {n : Nat} {l : List Px} {xs : List Value} (h : w.ownsRow base 40 4 v n (pcells l ++ xs)) (new : List Px) (hx : xs = pcells new) (hn : n = l.length + new.length) : POwn w base v (l ++ new) := by
  subst hx; subst hn
  unfold POwn
  rw [pcells_append, List.length_append]
  exact h
theorem pown_shape {w : World} {b : Nat} {v : Value} {l : List Px} (h : POwn w b v l) : ∃ x c, v = .slice x l.length c := by
  rcases h.2 with ⟨rfl, h0⟩ | ⟨g, cap, cur, rfl, _⟩
  · exact ⟨none, 0, by rw [h0]⟩
  · exact ⟨_, _, rfl⟩
theorem POwn.prow {w : World} {base : Nat} {v : Value} {l : List Px} (h : POwn w base v l) : PRow w v l := by
  rcases h.2 with ⟨rfl, h0⟩ | ⟨g, cap, cur, rfl, _, hg, hc, hm, _⟩
  · have : l = [] := List.eq_nil_of_length_eq_zero h0
    subst this
    exact ⟨none, 0, rfl, Nat.le_refl _, by unfold maxLen; omega, fun _ => rfl, fun h => absurd rfl h⟩
  · refine ⟨_, cap, rfl, hc, hm, (fun h => by cases h), fun _ => ⟨g, 0, rfl, fun i hi => ?_⟩⟩
    have gt : ∀ j, j < 4 → w.cell? ⟨g, i * 4 + j, none⟩ = some (.int .i64 (pxG l[i] j)) := fun j hj => by
      have e := pixA_get l i j hi hj
      have e2 : (pcells l)[i * 4 + j]? = some (.int .i64 (pxG l[i] j)) := by unfold pcells; rw [Array.getElem?_toList]; exact e
      have := World.ownsRow.cells h (g := g) rfl _ _ e2
      rw [Addr.add_lit] at this
      simpa using this
    refine ⟨?_, ?_, ?_, ?_⟩
    · have := gt 0 (by decide); simp only [pxG, Nat.zero_add, Nat.add_zero] at this ⊢; exact this
    · have := gt 1 (by decide); simp only [pxG, Nat.zero_add, Nat.add_zero] at this ⊢; exact this
    · have := gt 2 (by decide); simp only [pxG, Nat.zero_add, Nat.add_zero] at this ⊢; exact this
    · have := gt 3 (by decide); simp only [pxG, Nat.zero_add, Nat.add_zero] at this ⊢; exact this

/-- Behind the header. -/
def RHJ (l : List UInt8) (ok : Bool) (w wx : World) (B K : Nat) : Prop :=
  Blk wx B 24 img0 ∧ Below B w wx ∧ K < wx.heap.size ∧ B < K ∧
  match headP l with
  | none => ok = false
  | some (a, b, d, c, ms, rest) => ok = true ∧ ∃ p v, Blk wx K 44 (hd6 a b d c p v) ∧ p ≤ l.length ∧ rest = l.drop p ∧ MRow wx v ms
/-- A header stored. -/
theorem rhj_of {l : List UInt8} {r : Option (Nat × Nat × Nat × Nat × List Mt × List UInt8)} (hr : headP l = r) {e : Ending} {w w0 w1 : World} {B K : Nat} (hb0 : Blk w0 B 24 img0) (hk0 : Blk w0 K 44 hd60) (hbe : Below B w w0) (hBK : B < K) (hb : Below w0.heap.size w0 w1) (h : RHdOk l r e w1) :
    ∃ a b d c p v ok, e = .returned (.tuple #[.agg (hd6 a b d c p v), .bool ok]) ∧ v.oneCell' = true ∧ Blk w1 K 44 hd60 ∧ RHJ l ok w (w1.setRow K (hd6 a b d c p v)) B K := by
  have hk1 : Blk w1 K 44 hd60 := (hb.block _ hk0.lt).trans hk0
  have hb1 : Blk w1 B 24 img0 := (hb.block _ hb0.lt).trans hb0
  have hbe1 : Below B w w1 := hbe.trans (hb.mono (by have := hb0.lt; omega))
  have hks : K < w1.heap.size := hk1.lt
  match r, h with
  | none, h =>
    obtain ⟨a, b, d, c, p, v, rfl, hv⟩ := h
    refine ⟨a, b, d, c, p, v, false, rfl, hv, hk1, hb1.rset_ne _ (by omega), below_rset hbe1 (by omega) _, by rw [rset_size]; exact hks, hBK, ?_⟩
    rw [hr]
  | some (a, b, d, c, ms, rest), h =>
    obtain ⟨p, v, rfl, hp, hrest, hm⟩ := h
    refine ⟨a, b, d, c, p, v, true, rfl, by obtain ⟨x, cc, rfl, -⟩ := hm; rfl, hk1, hb1.rset_ne _ (by omega), below_rset hbe1 (by omega) _, by rw [rset_size]; exact hks, hBK, ?_⟩
    rw [hr]
    refine ⟨rfl, p, v, hk1.rset _, hp, hrest, mrow_heap hm hk1 (fun i s => ?_) (fun j hj => heap_rset_ne _ _ _ _ hj)⟩
    unfold hd60
    match i with
    | 0 => simp [hd6]
    | 1 => simp [hd6]
    | 2 => simp [hd6]
    | 3 => simp [hd6]
    | 4 => simp [hd6]
    | 5 => simp [hd6]
    | i + 6 => simp [hd6]

/-- The cells of the loop over pixels. -/
structure LP2 (ws wr : World) (I W H : Nat) (pv : Value) (l : List Px) : Prop where
  ix : Blk wr I 24 (imgC W H pv)
  po : POwn wr I pv l
  lt : I < wr.heap.size
  be : Below I ws wr
theorem pown_put {w : World} {B k : Nat} {v : Value} {l : List Px} {t : TypeId} {cs : Array Value} (h : POwn w B v l) (hb : Blk w k t cs) (ht : t ≠ 40) (i : Nat) (u : Value) : POwn (w.setCell ⟨k, i, none⟩ u) B v l :=
  ((Fr.refl k [t] w).put hb (Nat.le_refl _) (by simp) i u).owns h (by simpa using fun e => ht e.symm)
theorem LP2.alloc {ws wr : World} {I W H : Nat} {pv : Value} {l : List Px} (h : LP2 ws wr I W H pv l) (o : Obj) : LP2 ws (wr.alloc o) I W H pv l :=
  ⟨h.ix.alloc o, World.ownsRow.alloc h.po o, by have := h.lt; simp; omega, h.be.alloc (Nat.le_of_lt h.lt) o⟩
theorem LP2.drew {ws wr : World} {I W H : Nat} {pv : Value} {l : List Px} (h : LP2 ws wr I W H pv l) : LP2 ws wr.drew I W H pv l := ⟨h.ix.drew, h.po, h.lt, h.be.drew⟩
theorem lp2_zero (ws : World) (W H : Nat) : LP2 ws (ws.alloc (.cells (imgC W H (.slice none 0 0)) 24)) ws.heap.size W H (.slice none 0 0) [] :=
  ⟨Blk.new ws _ _, World.ownsRow_nil _ _ _ _, by simp, (Below.refl _ _).alloc (Nat.le_refl _) _⟩
theorem LP2.put {ws wr : World} {I W H A : Nat} {pv : Value} {l : List Px} (h : LP2 ws wr I W H pv l) (hIA : I < A) (hob : pv.ownBlock ≠ some A) (i : Nat) (u : Value) : LP2 ws (wr.setCell ⟨A, i, none⟩ u) I W H pv l :=
  ⟨h.ix.other (p := ⟨A, i, none⟩) (by show I ≠ A; omega) u, ownsRow_setCell_other h.po hob u, by have := h.lt; simpa [World.setCell] using this, below_put h.be (p := ⟨A, i, none⟩) (by show I ≤ A; omega) u⟩
theorem lp2_own {ws wr : World} {I W H : Nat} {pv : Value} {l : List Px} (h : LP2 ws wr I W H pv l) : pv.ownBlock ≠ some wr.heap.size := by
  intro e
  have := (World.ownsRow.lt h.po _ e).2
  omega
theorem imgC_set2 (W H : Nat) (v u : Value) : (imgC W H v).setIfInBounds 2 u = imgC W H u := by simp [imgC]
theorem lp2_next {ws wr w4 : World} {I W H : Nat} {pv v' : Value} {l : List Px} {p : Px} {o : Obj} (h : LP2 ws wr I W H pv l) (ho : POwn w4 I v' (l ++ [p])) (hg : (wr.alloc o).grownBy w4 pv.ownBlock) :
    Blk w4 I 24 (imgC W H pv) ∧ LP2 ws (w4.setCell ⟨I, 2, none⟩ v') I W H v' (l ++ [p]) := by
  have hi : Blk w4 I 24 (imgC W H pv) := (hg.block I (by have := h.lt; simp; omega) (own_blk_ne' h.ix h.po.2 (by decide))).trans (h.ix.alloc o)
  have hb : Below I ws w4 := (h.be.alloc (Nat.le_of_lt h.lt) o).grown hg (by have := h.lt; simp; omega) (fun k hk => (World.ownsRow.lt h.po k hk).1)
  have h2 := hi.put 2 v'
  rw [imgC_set2] at h2
  exact ⟨hi, h2, pown_put ho hi (by decide) 2 v', by have := hi.lt; simpa [World.setCell] using this, below_put hb (p := ⟨I, 2, none⟩) (Nat.le_refl _) _⟩
theorem lpx_after {ws wr : World} {I W H : Nat} {pv : Value} {l : List Px} {a b c d : Int} (h : LP2 ws wr I W H pv l) : ∃ A : Nat, Value.pointer (some ⟨wr.heap.size, 0, none⟩) = .pointer (some ⟨A, 0, none⟩) ∧ Hid (Blk (wr.alloc (.cells #[.int .i64 a, .int .i64 b, .int .i64 c, .int .i64 d] 40)).drew A 40 (pxC (a, b, c, d))) ∧ Hid (LP2 ws (wr.alloc (.cells #[.int .i64 a, .int .i64 b, .int .i64 c, .int .i64 d] 40)).drew I W H pv l ∧ I < A ∧ pv.ownBlock ≠ some A) :=
  ⟨_, rfl, (Blk.new wr _ _).drew, (h.alloc _).drew, h.lt, lp2_own h⟩
theorem lp2_fin {w ws wr : World} {B I W H : Nat} {pv mv : Value} {l : List Px} {ms : List Mt} (h : LP2 ws wr I W H pv l) (hb : Blk wr B 24 img0) (hBI : B < I) (hm : MRow wr mv ms) (hbe : Below B w wr) :
    Blk (((wr.setCell ⟨B, 0, none⟩ (.int .i64 W)).setCell ⟨B, 1, none⟩ (.int .i64 H)).setCell ⟨B, 2, none⟩ pv).drew B 24 (imgC W H pv) ∧ PRow (((wr.setCell ⟨B, 0, none⟩ (.int .i64 W)).setCell ⟨B, 1, none⟩ (.int .i64 H)).setCell ⟨B, 2, none⟩ pv).drew pv l ∧ MRow (((wr.setCell ⟨B, 0, none⟩ (.int .i64 W)).setCell ⟨B, 1, none⟩ (.int .i64 H)).setCell ⟨B, 2, none⟩ pv).drew mv ms ∧ Below B w (((wr.setCell ⟨B, 0, none⟩ (.int .i64 W)).setCell ⟨B, 1, none⟩ (.int .i64 H)).setCell ⟨B, 2, none⟩ pv).drew := by
  have b1 := hb.put 0 (.int .i64 W)
  have b2 := b1.put 1 (.int .i64 H)
  have b3 := b2.put 2 pv
  have p1 := pown_put h.po hb (by decide) 0 (.int .i64 W)
  have p2 := pown_put p1 b1 (by decide) 1 (.int .i64 H)
  have p3 := pown_put p2 b2 (by decide) 2 pv
  have g0 : img0[0]? = some (.int .i64 0) := by simp [img0, imgC]
  have g1 : (img0.setIfInBounds 0 (.int .i64 (W : Int)))[1]? = some (.int .i64 0) := by simp [img0, imgC]
  have g2 : ((img0.setIfInBounds 0 (.int .i64 (W : Int))).setIfInBounds 1 (.int .i64 (H : Int)))[2]? = some (.slice none 0 0) := by simp [img0, imgC]
  have m1 := mrow_put hm ((hb.cell 0).trans g0) (by intro s e; cases e) (.int .i64 W)
  have m2 := mrow_put m1 ((b1.cell 1).trans g1) (by intro s e; cases e) (.int .i64 H)
  have m3 := mrow_put m2 ((b2.cell 2).trans g2) (by intro s e; cases e) pv
  have e3 : ((img0.setIfInBounds 0 (.int .i64 (W : Int))).setIfInBounds 1 (.int .i64 (H : Int))).setIfInBounds 2 pv = imgC W H pv := by simp [img0, imgC]
  rw [e3] at b3
  exact ⟨b3.drew, p3.prow, mrow_drew m3, (below_put (below_put (below_put hbe (p := ⟨B, 0, none⟩) (Nat.le_refl _) _) (p := ⟨B, 1, none⟩) (Nat.le_refl _) _) (p := ⟨B, 2, none⟩) (Nat.le_refl _) _).drew⟩
theorem px_cells {w : World} {A : Nat} {p : Px} (h : Blk w A 40 (pxC p)) : w.cell? ⟨A, 0, none⟩ = some (.int .i64 p.1) ∧ w.cell? ⟨A, 1, none⟩ = some (.int .i64 p.2.1) ∧ w.cell? ⟨A, 2, none⟩ = some (.int .i64 p.2.2.1) ∧ w.cell? ⟨A, 3, none⟩ = some (.int .i64 p.2.2.2) :=
  ⟨h.cell 0, h.cell 1, h.cell 2, h.cell 3⟩

set_option maxHeartbeats 8000000 in
set_option maxRecDepth 100000 in
theorem rdecode_any (t : ByteArray) (w : World) (ht : t.size ≤ maxLen) : Calls Try.prog 6 #[.string t] w fun e w' => DecOk (decP t.data.toList) e w' ∧ Below w.heap.size w w' := by
  have HD : Hid (decP t.data.toList = match headP t.data.toList with | none => .error 4 | some (w, h, d, g, ms, rest) => bodyP w h d g ms rest) := rfl
  have HR := Lib.hid (head_ref t.data.toList)
  have H7 : Hid (∀ w, Calls Try.prog 14 #[.string t, .string ⟨#[80, 55]⟩] w fun e w' => e = .returned (.bool (begP [80, 55] t.data.toList)) ∧ w = w') := fun w => begins_any t ⟨#[80, 55]⟩ w
  have H5 : Hid (∀ w, Calls Try.prog 14 #[.string t, .string ⟨#[80, 53]⟩] w fun e w' => e = .returned (.bool (begP [80, 53] t.data.toList)) ∧ w = w') := fun w => begins_any t ⟨#[80, 53]⟩ w
  have H6 : Hid (∀ w, Calls Try.prog 14 #[.string t, .string ⟨#[80, 54]⟩] w fun e w' => e = .returned (.bool (begP [80, 54] t.data.toList)) ∧ w = w') := fun w => begins_any t ⟨#[80, 54]⟩ w
  have HSV := Lib.hid (fun w => rseven_any t w ht)
  have HPL := Lib.hid (fun h2 d hd w => rplain_any t w ht h2 d hd)
  have HTS := Lib.hid ht
  have HL := Lib.hid (ba_size t)
  unfold maxLen at ht
  obtain ⟨b7, hb7⟩ : ∃ b, begP [80, 55] t.data.toList = b := ⟨_, rfl⟩
  obtain ⟨b5, hb5⟩ : ∃ b, begP [80, 53] t.data.toList = b := ⟨_, rfl⟩
  obtain ⟨b6, hb6⟩ : ∃ b, begP [80, 54] t.data.toList = b := ⟨_, rfl⟩
  rw [hb7, hb5, hb6] at HR
  rw [hb7] at H7
  rw [hb5] at H5
  rw [hb6] at H6
  clear hb7 hb5 hb6
  go_enter Try.func6, Try.ntmps6
  have hb0 := (Blk.new w 24 img0).alloc (.cells hd60 44)
  have hk0 : Blk ((w.alloc (.cells img0 24)).alloc (.cells hd60 44)) (w.heap.size + 1) 44 hd60 := Blk.new_at (by simp) _ _
  have hbe0 := ((Below.refl w.heap.size w).alloc (Nat.le_refl _) (.cells img0 24)).alloc (by simp) (.cells hd60 44)
  go_upto_region 2 with fail
  change Blk ((w.alloc (.cells #[.int .i64 0, .int .i64 0, .slice none 0 0] 24)).alloc (.cells #[.int .i64 0, .int .i64 0, .int .i64 0, .int .i64 0, .int .i64 0, .slice none 0 0] 44)) w.heap.size 24 img0 at hb0
  change Blk ((w.alloc (.cells #[.int .i64 0, .int .i64 0, .slice none 0 0] 24)).alloc (.cells #[.int .i64 0, .int .i64 0, .int .i64 0, .int .i64 0, .int .i64 0, .slice none 0 0] 44)) (w.heap.size + 1) 44 hd60 at hk0
  change Below w.heap.size w ((w.alloc (.cells #[.int .i64 0, .int .i64 0, .slice none 0 0] 24)).alloc (.cells #[.int .i64 0, .int .i64 0, .int .i64 0, .int .i64 0, .int .i64 0, .slice none 0 0] 44)) at hbe0
  generalize (w.alloc (.cells #[.int .i64 0, .int .i64 0, .slice none 0 0] 24)).alloc (.cells #[.int .i64 0, .int .i64 0, .int .i64 0, .int .i64 0, .int .i64 0, .slice none 0 0] 44) = wz at *
  have HB0 := Lib.hid hb0
  have HK0 := Lib.hid hk0
  have HBE0 := Lib.hid hbe0
  clear hb0 hk0 hbe0
  generalize hB : w.heap.size = B at *
  have HB := Lib.hid hB
  clear hB
  go_wp2_with fail
  refine (H7.out _).mono ?_
  rintro e w1 ⟨rfl, rfl⟩
  go_upto_if 18 with fail
  go_cut [6] from 16 (fun v6 wx => ∃ ok, v6 = .bool ok ∧ Hid (RHJ t.data.toList ok w wx B (B + 1)))
  case first =>
    cases b7 with
    | true =>
      have HH := Lib.hid (HR.out.1 rfl)
      clear HR
      go_wp2_with fail
      refine (HSV.out _).mono ?_
      rintro e w1 ⟨hok, hb1⟩
      obtain ⟨a, b, d, c, p, v, ok, rfl, hv, hk1, hj⟩ := rhj_of HH.out HB0.out HK0.out HBE0.out (Nat.lt_succ_self _) hb1 hok
      have HV := Lib.hid hv
      have HK1 := Lib.hid hk1
      have HJ := Lib.hid hj
      have HI := Lib.hid (hd6_inf a b d c p v)
      have HO := Lib.hid (hd6_one a b d c p v hv)
      have HZ : Hid (hd60.size = (hd6 a b d c p v).size) := rfl
      obtain ⟨hd, hhd⟩ : ∃ x, x = hd6 a b d c p v := ⟨_, rfl⟩
      rw [← hhd] at HJ HI HO HZ ⊢
      clear hv hk1 hj hhd hok hb1
      go_wp2_with (refine wpList_store_rowTo rfl 44 (.tmp 5) (.tmp 22) rfl rfl (B + 1) hd (by rfl) (by rfl) 44 hd60 (by exact HK1.out) HI.out (by exact HZ.out) HO.out ?_)
      go_meet
      case rel => exact ⟨ok, rfl, HJ.out⟩
    | false =>
      cases b5 with
      | true =>
        obtain ⟨hh, h53, hl2⟩ := HR.out.2.1 rfl rfl
        have HH := Lib.hid hh
        have HPP := Lib.hid (HPL.out (by rw [← HL.out]; exact hl2) 1 (by rw [if_pos h53]))
        clear HR hh h53 hl2
        go_wp2_with fail
        refine (H5.out _).mono ?_
        rintro e w1 ⟨rfl, rfl⟩
        go_wp2_with fail
        refine (HPP.out _).mono ?_
        rintro e w1 ⟨hok, hb1⟩
        obtain ⟨a, b, d, c, p, v, ok, rfl, hv, hk1, hj⟩ := rhj_of HH.out HB0.out HK0.out HBE0.out (Nat.lt_succ_self _) hb1 hok
        have HV := Lib.hid hv
        have HK1 := Lib.hid hk1
        have HJ := Lib.hid hj
        have HI := Lib.hid (hd6_inf a b d c p v)
        have HO := Lib.hid (hd6_one a b d c p v hv)
        have HZ : Hid (hd60.size = (hd6 a b d c p v).size) := rfl
        obtain ⟨hd, hhd⟩ : ∃ x, x = hd6 a b d c p v := ⟨_, rfl⟩
        rw [← hhd] at HJ HI HO HZ ⊢
        clear hv hk1 hj hhd hok hb1
        go_wp2_with (refine wpList_store_rowTo rfl 44 (.tmp 5) (.tmp 33) rfl rfl (B + 1) hd (by rfl) (by rfl) 44 hd60 (by exact HK1.out) HI.out (by exact HZ.out) HO.out ?_)
        go_meet
        case rel => exact ⟨ok, rfl, HJ.out⟩
      | false =>
        cases b6 with
        | true =>
          obtain ⟨hh, h53, hl2⟩ := HR.out.2.2.1 rfl rfl rfl
          have HH := Lib.hid hh
          have HPP := Lib.hid (HPL.out (by rw [← HL.out]; exact hl2) 3 (by rw [if_neg h53]))
          clear HR hh h53 hl2
          go_wp2_with fail
          refine (H5.out _).mono ?_
          rintro e w1 ⟨rfl, rfl⟩
          go_wp2_with fail
          refine (H6.out _).mono ?_
          rintro e w1 ⟨rfl, rfl⟩
          go_wp2_with fail
          refine (HPP.out _).mono ?_
          rintro e w1 ⟨hok, hb1⟩
          obtain ⟨a, b, d, c, p, v, ok, rfl, hv, hk1, hj⟩ := rhj_of HH.out HB0.out HK0.out HBE0.out (Nat.lt_succ_self _) hb1 hok
          have HV := Lib.hid hv
          have HK1 := Lib.hid hk1
          have HJ := Lib.hid hj
          have HI := Lib.hid (hd6_inf a b d c p v)
          have HO := Lib.hid (hd6_one a b d c p v hv)
          have HZ : Hid (hd60.size = (hd6 a b d c p v).size) := rfl
          obtain ⟨hd, hhd⟩ : ∃ x, x = hd6 a b d c p v := ⟨_, rfl⟩
          rw [← hhd] at HJ HI HO HZ ⊢
          clear hv hk1 hj hhd hok hb1
          go_wp2_with (refine wpList_store_rowTo rfl 44 (.tmp 5) (.tmp 33) rfl rfl (B + 1) hd (by rfl) (by rfl) 44 hd60 (by exact HK1.out) HI.out (by exact HZ.out) HO.out ?_)
          go_meet
          case rel => exact ⟨ok, rfl, HJ.out⟩
        | false =>
          have HH := Lib.hid (HR.out.2.2.2 rfl rfl rfl)
          clear HR
          go_wp2_with fail
          refine (H5.out _).mono ?_
          rintro e w1 ⟨rfl, rfl⟩
          go_wp2_with fail
          refine (H6.out _).mono ?_
          rintro e w1 ⟨rfl, rfl⟩
          go_wp2_with fail
          go_meet
          case rel => exact ⟨false, rfl, by show RHJ _ _ _ _ _ _; unfold RHJ; rw [HH.out]; exact ⟨HB0.out, HBE0.out, HK0.out.lt, Nat.lt_succ_self _, rfl⟩⟩
  case rest =>
    obtain ⟨ok, rfl, hj⟩ := hcut
    obtain ⟨wv, hwv⟩ : ∃ wv, wv = wc := ⟨_, rfl⟩
    rw [← hwv] at hj ⊢
    clear hwv wc
    clear H5 H6 H7 HSV HPL HR HB0 HK0 HBE0
    obtain ⟨hbx, hbex, hklt, hBK, hm⟩ := hj.out
    have HBX := Lib.hid hbx
    have HBEX := Lib.hid hbex
    clear hj hbx hbex
    generalize hK : B + 1 = K at *
    have HK := Lib.hid hK
    clear hK
    generalize headP t.data.toList = hr at *
    match hr, hm with
    | none, hm =>
      obtain rfl : ok = false := hm
      have HF : Hid (decP t.data.toList = .error 4) := HD.out
      go_wp2_with (refine wpList_rset_same rfl 24 (.tmp 2) (.tmp 37) rfl rfl B img0 (by rfl) (by rfl) 24 (by exact HBX.out) img0_inf img0_one ?_)
      refine bodyPost_ret (v := errV 4) (results_ctt rfl _ _ B 24 img0 (0, 0) _ _ _ rfl rfl rfl HBX.out Try.underlying24 rfl img0_inf) rfl ⟨?_, by rw [HB.out]; exact HBEX.out⟩
      rw [HF.out]; rfl
    | some (W, H, D, G, ms, rest), hm =>
      obtain ⟨rfl, p, mv, hhx, hpl, hrest, hmx⟩ := hm
      have HHX := Lib.hid hhx
      have HMX := Lib.hid hmx
      obtain ⟨xm, cm, rfl, -⟩ := id hmx
      have HD2 : Hid (decP t.data.toList = bodyP W H D G ms rest) := HD.out
      rw [HL.out] at hpl
      have HRE := Lib.hid hrest
      clear hhx hmx hrest HD
      have x0 : wv.cell? ⟨K, 0, none⟩ = some (.int .i64 W) := (HHX.out.cell 0).trans (hd6_g0 _ _ _ _ _ _)
      have x1 : wv.cell? ⟨K, 1, none⟩ = some (.int .i64 H) := (HHX.out.cell 1).trans (hd6_g1 _ _ _ _ _ _)
      have x2 : wv.cell? ⟨K, 2, none⟩ = some (.int .i64 D) := (HHX.out.cell 2).trans (hd6_g2 _ _ _ _ _ _)
      have x3 : wv.cell? ⟨K, 3, none⟩ = some (.int .i64 G) := (HHX.out.cell 3).trans (hd6_g3 _ _ _ _ _ _)
      have x4 : wv.cell? ⟨K, 4, none⟩ = some (.int .i64 p) := (HHX.out.cell 4).trans (hd6_g4 _ _ _ _ _ _)
      by_cases hW1 : W < 1
      · have d1 : decide ((W : Int) < 1) = true := by simp; omega
        have HF : Hid (decP t.data.toList = .error 15) := by show _ = _; rw [HD2.out]; unfold bodyP; rw [if_pos (by omega)]
        go_wp2_with (refine wpList_rset_same rfl 24 (.tmp 2) (.tmp 56) rfl rfl B img0 (by rfl) (by rfl) 24 (by exact HBX.out) img0_inf img0_one ?_)
        refine bodyPost_ret (v := errV 15) (results_ctt rfl _ _ B 24 img0 (0, 0) _ _ _ rfl rfl rfl HBX.out Try.underlying24 rfl img0_inf) rfl ⟨?_, by rw [HB.out]; exact HBEX.out⟩
        rw [HF.out]; rfl
      have dW1 : decide ((W : Int) < 1) = false := by simp; omega
      by_cases hW2 : 256 < W
      · have d2 : decide ((256 : Int) < (W : Int)) = true := by simp; omega
        have HF : Hid (decP t.data.toList = .error 15) := by show _ = _; rw [HD2.out]; unfold bodyP; rw [if_pos (by omega)]
        go_wp2_with (refine wpList_rset_same rfl 24 (.tmp 2) (.tmp 56) rfl rfl B img0 (by rfl) (by rfl) 24 (by exact HBX.out) img0_inf img0_one ?_)
        refine bodyPost_ret (v := errV 15) (results_ctt rfl _ _ B 24 img0 (0, 0) _ _ _ rfl rfl rfl HBX.out Try.underlying24 rfl img0_inf) rfl ⟨?_, by rw [HB.out]; exact HBEX.out⟩
        rw [HF.out]; rfl
      have dW2 : decide ((256 : Int) < (W : Int)) = false := by simp; omega
      by_cases hH1 : H < 1
      · have d1 : decide ((H : Int) < 1) = true := by simp; omega
        have HF : Hid (decP t.data.toList = .error 15) := by show _ = _; rw [HD2.out]; unfold bodyP; rw [if_pos (by omega)]
        go_wp2_with (refine wpList_rset_same rfl 24 (.tmp 2) (.tmp 56) rfl rfl B img0 (by rfl) (by rfl) 24 (by exact HBX.out) img0_inf img0_one ?_)
        refine bodyPost_ret (v := errV 15) (results_ctt rfl _ _ B 24 img0 (0, 0) _ _ _ rfl rfl rfl HBX.out Try.underlying24 rfl img0_inf) rfl ⟨?_, by rw [HB.out]; exact HBEX.out⟩
        rw [HF.out]; rfl
      have dH1 : decide ((H : Int) < 1) = false := by simp; omega
      by_cases hH2 : 256 < H
      · have d2 : decide ((256 : Int) < (H : Int)) = true := by simp; omega
        have HF : Hid (decP t.data.toList = .error 15) := by show _ = _; rw [HD2.out]; unfold bodyP; rw [if_pos (by omega)]
        go_wp2_with (refine wpList_rset_same rfl 24 (.tmp 2) (.tmp 56) rfl rfl B img0 (by rfl) (by rfl) 24 (by exact HBX.out) img0_inf img0_one ?_)
        refine bodyPost_ret (v := errV 15) (results_ctt rfl _ _ B 24 img0 (0, 0) _ _ _ rfl rfl rfl HBX.out Try.underlying24 rfl img0_inf) rfl ⟨?_, by rw [HB.out]; exact HBEX.out⟩
        rw [HF.out]; rfl
      have dH2 : decide ((256 : Int) < (H : Int)) = false := by simp; omega
      go_upto_region 10 with fail
      by_cases hD1 : D < 1
      · have d1 : decide ((D : Int) < 1) = true := by simp; omega
        have HF : Hid (decP t.data.toList = .error 2) := by show _ = _; rw [HD2.out]; unfold bodyP; rw [if_neg (by omega), if_pos (by omega)]
        go_wp2_with (refine wpList_rset_same rfl 24 (.tmp 2) (.tmp 75) rfl rfl B img0 (by rfl) (by rfl) 24 (by exact HBX.out) img0_inf img0_one ?_)
        refine bodyPost_ret (v := errV 2) (results_ctt rfl _ _ B 24 img0 (0, 0) _ _ _ rfl rfl rfl HBX.out Try.underlying24 rfl img0_inf) rfl ⟨?_, by rw [HB.out]; exact HBEX.out⟩
        rw [HF.out]; rfl
      have dD1 : decide ((D : Int) < 1) = false := by simp; omega
      by_cases hD2 : 4 < D
      · have d2 : decide ((4 : Int) < (D : Int)) = true := by simp; omega
        have HF : Hid (decP t.data.toList = .error 2) := by show _ = _; rw [HD2.out]; unfold bodyP; rw [if_neg (by omega), if_pos (by omega)]
        go_wp2_with (refine wpList_rset_same rfl 24 (.tmp 2) (.tmp 75) rfl rfl B img0 (by rfl) (by rfl) 24 (by exact HBX.out) img0_inf img0_one ?_)
        refine bodyPost_ret (v := errV 2) (results_ctt rfl _ _ B 24 img0 (0, 0) _ _ _ rfl rfl rfl HBX.out Try.underlying24 rfl img0_inf) rfl ⟨?_, by rw [HB.out]; exact HBEX.out⟩
        rw [HF.out]; rfl
      have dD2 : decide ((4 : Int) < (D : Int)) = false := by simp; omega
      by_cases hG1 : G < 1
      · have d1 : decide ((G : Int) < 1) = true := by simp; omega
        have HF : Hid (decP t.data.toList = .error 2) := by show _ = _; rw [HD2.out]; unfold bodyP; rw [if_neg (by omega), if_pos (by omega)]
        go_wp2_with (refine wpList_rset_same rfl 24 (.tmp 2) (.tmp 75) rfl rfl B img0 (by rfl) (by rfl) 24 (by exact HBX.out) img0_inf img0_one ?_)
        refine bodyPost_ret (v := errV 2) (results_ctt rfl _ _ B 24 img0 (0, 0) _ _ _ rfl rfl rfl HBX.out Try.underlying24 rfl img0_inf) rfl ⟨?_, by rw [HB.out]; exact HBEX.out⟩
        rw [HF.out]; rfl
      have dG1 : decide ((G : Int) < 1) = false := by simp; omega
      by_cases hG2 : 65535 < G
      · have d2 : decide ((65535 : Int) < (G : Int)) = true := by simp; omega
        have HF : Hid (decP t.data.toList = .error 2) := by show _ = _; rw [HD2.out]; unfold bodyP; rw [if_neg (by omega), if_pos (by omega)]
        go_wp2_with (refine wpList_rset_same rfl 24 (.tmp 2) (.tmp 75) rfl rfl B img0 (by rfl) (by rfl) 24 (by exact HBX.out) img0_inf img0_one ?_)
        refine bodyPost_ret (v := errV 2) (results_ctt rfl _ _ B 24 img0 (0, 0) _ _ _ rfl rfl rfl HBX.out Try.underlying24 rfl img0_inf) rfl ⟨?_, by rw [HB.out]; exact HBEX.out⟩
        rw [HF.out]; rfl
      have dG2 : decide ((65535 : Int) < (G : Int)) = false := by simp; omega
      go_upto_region 12 with fail
      clear dW1 dW2 dH1 dH2 dD1 dD2 dG1 dG2
      obtain ⟨RS, hRS⟩ : ∃ RS, t.extract p t.size = RS := ⟨_, rfl⟩
      have HRL : Hid (RS.data.toList = rest) := by show _ = _; rw [← hRS, extract_list, List.take_of_length_le (by simp), HRE.out]
      have HRSS : Hid (RS.size = rest.length) := by show _ = _; rw [← ba_size, HRL.out]
      obtain ⟨N, hN, hN2, hN3⟩ : ∃ N, N = W * H ∧ N ≤ 65536 ∧ 1 ≤ N := by
        refine ⟨_, rfl, ?_, ?_⟩
        · have := Nat.mul_le_mul (show W ≤ 256 by omega) (show H ≤ 256 by omega); omega
        · have := Nat.mul_le_mul (show 1 ≤ W by omega) (show 1 ≤ H by omega); omega
      have n1 : IntKind.i64.wrap ((W : Int) * (H : Int)) = (N : Int) := by
        have e : (W : Int) * (H : Int) = (N : Int) := by rw [hN, Int.natCast_mul]
        rw [e]; exact IntWalk.i64_in _ (by omega)
      have hbd : decP t.data.toList = if rest.length < N * (D * (if 255 < G then 2 else 1)) then .error 5 else if N * (D * (if 255 < G then 2 else 1)) < rest.length then .error 6 else if pixOk (decide (255 < G)) D G (D * (if 255 < G then 2 else 1)) N rest = true then .ok (W, H, pixL (decide (255 < G)) D G (D * (if 255 < G then 2 else 1)) N rest, ms) else .error 2 := by
        rw [HD2.out]; unfold bodyP; rw [if_neg (by omega), if_neg (by omega), ← hN]
      clear hN HD2
      obtain ⟨two, htwo⟩ : ∃ two, two = decide (255 < G) := ⟨_, rfl⟩
      obtain ⟨BY, hBY⟩ : ∃ BY, BY = if 255 < G then 2 else 1 := ⟨_, rfl⟩
      rw [← htwo, ← hBY] at hbd
      have HTB : Hid (BY = if two = true then 2 else 1) := by show _ = _; rw [hBY, htwo]; by_cases h : 255 < G <;> simp [h]
      have hb12 : 1 ≤ BY ∧ BY ≤ 2 := by rw [hBY]; split <;> omega
      obtain ⟨NN, hNN, hNN2, hNN3⟩ : ∃ NN, NN = N * D ∧ NN ≤ 262144 ∧ 1 ≤ NN := by
        refine ⟨_, rfl, ?_, ?_⟩
        · have := Nat.mul_le_mul hN2 (show D ≤ 4 by omega); omega
        · have := Nat.mul_le_mul hN3 (show 1 ≤ D by omega); omega
      have n2 : IntKind.i64.wrap ((N : Int) * (D : Int)) = (NN : Int) := by
        have e : (N : Int) * (D : Int) = (NN : Int) := by rw [hNN, Int.natCast_mul]
        rw [e]; exact IntWalk.i64_in _ (by omega)
      obtain ⟨ND, hND, hND2⟩ : ∃ ND, ND = NN * BY ∧ ND ≤ 524288 := by
        refine ⟨_, rfl, ?_⟩
        have := Nat.mul_le_mul hNN2 hb12.2; omega
      have n3 : IntKind.i64.wrap ((NN : Int) * (BY : Int)) = (ND : Int) := by
        have e : (NN : Int) * (BY : Int) = (ND : Int) := by rw [hND, Int.natCast_mul]
        rw [e]; exact IntWalk.i64_in _ (by omega)
      have hNDe : N * (D * BY) = ND := by rw [hND, hNN, Nat.mul_assoc]
      rw [hNDe] at hbd
      have hPO := pixOk_iff two D G N rest (by omega)
      rw [← HTB.out, ← hNN] at hPO
      have HPO := Lib.hid hPO
      have HBD := Lib.hid hbd
      have HND := Lib.hid hND
      have HNN := Lib.hid hNN
      have HBY := Lib.hid hBY
      have HTW := Lib.hid htwo
      clear hbd hND hNN hBY htwo hNDe hPO
      go_upto_if 78 with fail
      go_cut [7] from 16 (fun v7 wx => v7 = .int .i64 (BY : Nat) ∧ wx = wv)
      case first =>
        by_cases h255 : 255 < G
        · have d255 : decide ((255 : Int) < (G : Int)) = true := by simp; omega
          go_wp2_with fail
          go_meet
          case rel => exact ⟨by rw [HBY.out, if_pos h255]; rfl, rfl⟩
        · have d255 : decide ((255 : Int) < (G : Int)) = false := by simp; omega
          go_wp2_with fail
          go_meet
          case rel => exact ⟨by rw [HBY.out, if_neg h255]; rfl, rfl⟩
      case rest =>
        obtain ⟨rfl, hwc⟩ := hcut
        rw [hwc]
        clear hwc wc hm
        have HSUB := hpl
        go_upto_if 96 with fail
        go_cut [7] from 16 (fun v7 wx => v7 = .int .i64 (BY : Nat) ∧ wx = wv ∧ ¬ RS.size < ND)
        case first =>
          by_cases hsh : RS.size < ND
          · have HF : Hid (decP t.data.toList = .error 5) := by show _ = _; rw [HBD.out, if_pos (by rw [← HRSS.out]; exact hsh)]
            go_wp2_with (refine wpList_rset_same rfl 24 (.tmp 2) (.tmp 97) rfl rfl B img0 (by rfl) (by rfl) 24 (by exact HBX.out) img0_inf img0_one ?_)
            refine bodyPost_ret (v := errV 5) (results_ctt rfl _ _ B 24 img0 (0, 0) _ _ _ rfl rfl rfl HBX.out Try.underlying24 rfl img0_inf) rfl ⟨?_, by rw [HB.out]; exact HBEX.out⟩
            rw [HF.out]; rfl
          · go_wp2_with fail
            go_meet
            case rel => exact ⟨rfl, rfl, hsh⟩
        case rest =>
        obtain ⟨rfl, hwc, hsh⟩ := hcut
        rw [hwc]
        clear hwc wc
        by_cases hex : ND < RS.size
        · have HF : Hid (decP t.data.toList = .error 6) := by show _ = _; rw [HBD.out, if_neg (by rw [← HRSS.out]; exact hsh), if_pos (by rw [← HRSS.out]; exact hex)]
          go_wp2_with (refine wpList_rset_same rfl 24 (.tmp 2) (.tmp 104) rfl rfl B img0 (by rfl) (by rfl) 24 (by exact HBX.out) img0_inf img0_one ?_)
          refine bodyPost_ret (v := errV 6) (results_ctt rfl _ _ B 24 img0 (0, 0) _ _ _ rfl rfl rfl HBX.out Try.underlying24 rfl img0_inf) rfl ⟨?_, by rw [HB.out]; exact HBEX.out⟩
          rw [HF.out]; rfl
        have hbd2 : decP t.data.toList = if pixOk two D G (D * BY) N rest = true then .ok (W, H, pixL two D G (D * BY) N rest, ms) else .error 2 := by
          rw [HBD.out, if_neg (by rw [← HRSS.out]; exact hsh), if_neg (by rw [← HRSS.out]; exact hex)]
        have HBD2 := Lib.hid hbd2
        clear hbd2 HBD
        go_upto_region 21 with fail
        have hsz : RS.size = ND := by omega
        have HSZ := Lib.hid hsz
        clear hsh hex hsz n1 n2 n3 x0 x1 x2 x4 hklt
        go_wp2_with fail
        clear x3
        have hmax : maxLen = 9223372036854775807 := rfl
        have hgd : 1 ≤ G ∧ G ≤ 65535 := by omega
        go_loopw [10, 11] (fun vv vk wr => ∃ (k : Nat), vk = .int .i64 k ∧ k ≤ NN ∧ ZRow wr wv.heap.size vv ((List.range k).map (sv two G rest)) ∧ wv.heap.size ≤ wr.heap.size ∧ Hid (Below wv.heap.size wv wr) ∧ Hid (∀ j, j < k → smpP two rest j ≤ G)) (fun _ vk _ => NN - (intOf vk).toNat)
        case atStart => exact ⟨0, rfl, Nat.zero_le _, zrow_zero rfl (Nat.le_refl _), by simp, (Below.refl _ _).alloc (Nat.le_refl _) _, fun j h => absurd h (by omega)⟩
        case round =>
          obtain ⟨k, rfl, hk, hzr, hszr, hbw, hoks⟩ := hrel
          obtain ⟨acc, hacc⟩ : ∃ acc, acc = (List.range k).map (sv two G rest) := ⟨_, rfl⟩
          have hal : acc.length ≤ 262144 := by rw [hacc]; simp; omega
          rw [← hacc] at hzr
          have HACC := Lib.hid hacc
          clear hacc
          obtain ⟨x10, c10, rfl⟩ := zrow_shape hzr
          by_cases hlt : k < NN
          · have dlt : decide ((k : Int) < (NN : Int)) = true := by simp; omega
            have HX2 : Hid (wr.cell? ⟨K, 3, none⟩ = some (.int .i64 G)) := by
              have := (hbw.out.block K HHX.out.lt).trans HHX.out
              exact (Blk.cell this 3).trans (hd6_g3 _ _ _ _ _ _)
            cases two with
            | false =>
              have htb : BY = 1 := by rw [HTB.out]; rfl
              have ck : k < RS.size := by have h1 := HND.out; have := HSZ.out; rw [htb] at h1; omega
              obtain ⟨X, hX⟩ : ∃ X, RS[k].toNat = X := ⟨_, rfl⟩
              have HX : Hid (smpP false rest k = X) := by
                show _ = _
                rw [← hX, byte_at RS k ck, HRL.out]; rfl
              have hX255 : X < 256 := by rw [← hX]; exact RS[k].toNat_lt
              have w0 : IntKind.i64.wrap ((k : Int) * (BY : Int)) = (k : Int) := by rw [htb, IntWalk.i64_in _ (by omega)]; omega
              have e2 : ((BY : Int) == 2) = false := by rw [htb]; rfl
              clear htb
              go_upto_region 28 with fail
              clear hX ck w0 e2
              have HXS := HX
              have x3 : wr.cell? ⟨K, 3, none⟩ = some (.int .i64 G) := HX2.out
              by_cases hXG : G < X
              · have dX : decide ((G : Int) < (X : Int)) = true := by simp; omega
                have HF : Hid (decP t.data.toList = .error 2) := by
                  show _ = _
                  rw [HBD2.out, if_neg]
                  intro h
                  have := HPO.out.1 h k hlt
                  rw [HXS.out] at this; omega
                have HBX2 : Hid (Blk wr B 24 img0) := (hbw.out.block B HBX.out.lt).trans HBX.out
                have HBEX2 : Hid (Below B w wr) := HBEX.out.trans (hbw.out.mono (by have := HBX.out.lt; omega))
                go_wp2_with (refine wpList_rset_same rfl 24 (.tmp 2) (.tmp 132) rfl rfl B img0 (by rfl) (by rfl) 24 (by exact HBX2.out) img0_inf img0_one ?_)
                refine bodyPost_ret (v := errV 2) (results_ctt rfl _ _ B 24 img0 (0, 0) _ _ _ rfl rfl rfl HBX2.out Try.underlying24 rfl img0_inf) rfl ⟨?_, by rw [HB.out]; exact HBEX2.out⟩
                rw [HF.out]; rfl
              · have dX : decide ((G : Int) < (X : Int)) = false := by simp; omega
                have HDV := Lib.hid (fun w => rdivI_any ((X : Int) * 65535) (G : Int) w (by omega) (by omega) (by omega) (by omega))
                have HVL : Hid (rdI ((X : Int) * 65535) G = sv false G rest k) := by
                  show _ = _
                  unfold sv valS
                  rw [HXS.out, Int.natCast_mul]; rfl
                go_wp2_with fail
                refine (HDV.out _).mono ?_
                rintro e w2 ⟨rfl, nq, rfl⟩
                have hzr2 : ZRow (wr.drewN nq) wv.heap.size (.slice x10 acc.length c10) acc := hzr
                have hbw2 : Hid (Below wv.heap.size wv (wr.drewN nq)) := below_drewN hbw.out nq
                have hszr2 : wv.heap.size ≤ (wr.drewN nq).heap.size := hszr
                clear hzr hbw hszr x3 HX2
                generalize wr.drewN nq = w5 at *
                rw [HVL.out]
                generalize hsv : sv false G rest k = svk at *
                have HSVK := Lib.hid hsv
                clear hsv
                go_wp2_with (at_builtin; refine wpList_app el_intZ hzr2 hszr2 rfl rfl rfl (m := 0) rfl (by simp [Value.oneCell']) rfl (by omega) (by unfold maxLen; omega) ?_)
                intro r2 cap2 w4 ho2 hg2 _
                have hown2 := zrow_more ho2 [svk] rfl rfl
                obtain ⟨hbel2, hsz2⟩ := below_app hbw2.out hszr2 hzr2 hg2
                clear ho2 hg2 hzr2
                go_wp2_with fail
                go_roundw
                case rel =>
                  refine ⟨k + 1, by go_num, by omega, ?_, hsz2, hbel2, fun j hj => ?_⟩
                  · have e : (List.range (k + 1)).map (sv false G rest) = acc ++ [svk] := by rw [List.range_succ, List.map_append, ← HACC.out, ← HSVK.out]; rfl
                    rw [e]; exact hown2
                  · by_cases hjk : j = k
                    · subst hjk; rw [HXS.out]; omega
                    · exact hoks.out j (by omega)
                case measure => simp [intOf]; omega
            | true =>
              have htb : BY = 2 := by rw [HTB.out]; rfl
              obtain ⟨P0, hP0⟩ : ∃ P0, P0 = 2 * k := ⟨_, rfl⟩
              have ck : P0 + 1 < RS.size := by have h1 := HND.out; have := HSZ.out; rw [htb] at h1; omega
              have ck0 : P0 < RS.size := by omega
              obtain ⟨X0, hX0⟩ : ∃ X, RS[P0].toNat = X := ⟨_, rfl⟩
              obtain ⟨X1, hX1⟩ : ∃ X, RS[P0 + 1].toNat = X := ⟨_, rfl⟩
              have HX : Hid (smpP true rest k = 256 * X0 + X1) := by
                show _ = _
                rw [← hX0, ← hX1, byte_at RS P0 ck0, byte_at RS (P0 + 1) ck, HRL.out, hP0]; rfl
              have hX0255 : X0 < 256 := by rw [← hX0]; exact RS[P0].toNat_lt
              have hX1255 : X1 < 256 := by rw [← hX1]; exact RS[P0 + 1].toNat_lt
              have w0 : IntKind.i64.wrap ((k : Int) * (BY : Int)) = (P0 : Int) := by rw [htb, hP0, IntWalk.i64_in _ (by omega)]; omega
              have w1 : IntKind.i64.wrap (2 * (k : Int)) = (P0 : Int) := by rw [hP0, IntWalk.i64_in _ (by omega)]; omega
              have e2 : ((BY : Int) == 2) = true := by rw [htb]; rfl
              have hP0s : P0 ≤ 524288 := by have := HSZ.out; omega
              clear hP0 htb
              go_upto_region 28 with fail
              obtain ⟨X, hX⟩ : ∃ X, X = 256 * X0 + X1 := ⟨_, rfl⟩
              have HXS : Hid (smpP true rest k = X) := by show _ = _; rw [HX.out, hX]
              have hXi : 256 * (X0 : Int) + (X1 : Int) = (X : Int) := by omega
              have hX64 : X ≤ 65535 := by omega
              rw [hXi]
              clear hX HX hXi hX0 hX1 ck ck0 w0 w1 e2
              have x3 : wr.cell? ⟨K, 3, none⟩ = some (.int .i64 G) := HX2.out
              by_cases hXG : G < X
              · have dX : decide ((G : Int) < (X : Int)) = true := by simp; omega
                have HF : Hid (decP t.data.toList = .error 2) := by
                  show _ = _
                  rw [HBD2.out, if_neg]
                  intro h
                  have := HPO.out.1 h k hlt
                  rw [HXS.out] at this; omega
                have HBX2 : Hid (Blk wr B 24 img0) := (hbw.out.block B HBX.out.lt).trans HBX.out
                have HBEX2 : Hid (Below B w wr) := HBEX.out.trans (hbw.out.mono (by have := HBX.out.lt; omega))
                go_wp2_with (refine wpList_rset_same rfl 24 (.tmp 2) (.tmp 132) rfl rfl B img0 (by rfl) (by rfl) 24 (by exact HBX2.out) img0_inf img0_one ?_)
                refine bodyPost_ret (v := errV 2) (results_ctt rfl _ _ B 24 img0 (0, 0) _ _ _ rfl rfl rfl HBX2.out Try.underlying24 rfl img0_inf) rfl ⟨?_, by rw [HB.out]; exact HBEX2.out⟩
                rw [HF.out]; rfl
              · have dX : decide ((G : Int) < (X : Int)) = false := by simp; omega
                have HDV := Lib.hid (fun w => rdivI_any ((X : Int) * 65535) (G : Int) w (by omega) (by omega) (by omega) (by omega))
                have HVL : Hid (rdI ((X : Int) * 65535) G = sv true G rest k) := by
                  show _ = _
                  unfold sv valS
                  rw [HXS.out, Int.natCast_mul]; rfl
                go_wp2_with fail
                refine (HDV.out _).mono ?_
                rintro e w2 ⟨rfl, nq, rfl⟩
                have hzr2 : ZRow (wr.drewN nq) wv.heap.size (.slice x10 acc.length c10) acc := hzr
                have hbw2 : Hid (Below wv.heap.size wv (wr.drewN nq)) := below_drewN hbw.out nq
                have hszr2 : wv.heap.size ≤ (wr.drewN nq).heap.size := hszr
                clear hzr hbw hszr x3 HX2
                generalize wr.drewN nq = w5 at *
                rw [HVL.out]
                generalize hsv : sv true G rest k = svk at *
                have HSVK := Lib.hid hsv
                clear hsv
                go_wp2_with (at_builtin; refine wpList_app el_intZ hzr2 hszr2 rfl rfl rfl (m := 0) rfl (by simp [Value.oneCell']) rfl (by omega) (by unfold maxLen; omega) ?_)
                intro r2 cap2 w4 ho2 hg2 _
                have hown2 := zrow_more ho2 [svk] rfl rfl
                obtain ⟨hbel2, hsz2⟩ := below_app hbw2.out hszr2 hzr2 hg2
                clear ho2 hg2 hzr2
                go_wp2_with fail
                go_roundw
                case rel =>
                  refine ⟨k + 1, by go_num, by omega, ?_, hsz2, hbel2, fun j hj => ?_⟩
                  · have e : (List.range (k + 1)).map (sv true G rest) = acc ++ [svk] := by rw [List.range_succ, List.map_append, ← HACC.out, ← HSVK.out]; rfl
                    rw [e]; exact hown2
                  · by_cases hjk : j = k
                    · subst hjk; rw [HXS.out]; omega
                    · exact hoks.out j (by omega)
                case measure => simp [intOf]; omega
          · have dlt : decide ((k : Int) < (NN : Int)) = false := by simp; omega
            have hkN : NN = k := by omega
            subst hkN
            have HFIN : Hid (decP t.data.toList = .ok (W, H, pixL two D G (D * BY) N rest, ms)) := by
              show _ = _
              rw [HBD2.out, if_pos]
              exact HPO.out.2 hoks.out
            obtain ⟨ws, hws⟩ : ∃ ws, ws = wr := ⟨_, rfl⟩
            rw [← hws] at hzr hszr hbw ⊢
            clear hws wr
            have HHW : Hid (Blk ws K 44 (hd6 W H D G p (.slice xm ms.length cm))) := (hbw.out.block K HHX.out.lt).trans HHX.out
            have HBW : Hid (Blk ws B 24 img0) := (hbw.out.block B HBX.out.lt).trans HBX.out
            have HMW := Lib.hid (HMX.out.below hbw.out)
            have HBEW : Hid (Below B w ws) := HBEX.out.trans (hbw.out.mono (by have := HBX.out.lt; omega))
            have x0 : ws.cell? ⟨K, 0, none⟩ = some (.int .i64 W) := (HHW.out.cell 0).trans (hd6_g0 _ _ _ _ _ _)
            have x1 : ws.cell? ⟨K, 1, none⟩ = some (.int .i64 H) := (HHW.out.cell 1).trans (hd6_g1 _ _ _ _ _ _)
            have hlenN : acc.length = NN := by rw [HACC.out]; simp
            obtain ⟨g, c10', hx10, hgv⟩ := zrow_read hzr (by omega)
            have HGV : Hid (∀ j, j < NN → ws.cell? ⟨g, j, none⟩ = some (.int .i64 (sv two G rest j))) := by
              intro j hj
              rw [hgv j (by omega)]
              congr 2
              have hh := HACC.out
              have : acc[j]? = some (sv two G rest j) := by rw [hh]; simp [hj]
              rw [List.getElem?_eq_getElem (by omega)] at this
              exact Option.some.inj this
            cases hx10
            rw [hlenN] at *
            clear hgv hzr hbw hoks HHX HBX HMX HBEX hk hlt hlenN hal HACC
            have hlp0 := lp2_zero ws W H
            have hgd2 : g < ws.heap.size := World.block_lt_of_cell? ws _ (HGV.out 0 (by omega))
            go_wp2_with fail
            change LP2 ws (ws.alloc (.cells #[.int .i64 W, .int .i64 H, .slice none 0 0] 24)) ws.heap.size W H (.slice none 0 0) [] at hlp0
            generalize hI : ws.heap.size = I at *
            have HI := Lib.hid hI
            clear hI
            have HX2 : Hid (∀ wx, Below I ws wx → wx.cell? ⟨K, 2, none⟩ = some (.int .i64 D)) := fun wx hb => (hb.cell (p := ⟨K, 2, none⟩) (by have := HHW.out.lt; have := HI.out; show K < I; omega)).trans ((HHW.out.cell 2).trans (hd6_g2 _ _ _ _ _ _))
            have HGV2 : Hid (∀ j, j < NN → ∀ wx, Below I ws wx → wx.cell? ⟨g, j, none⟩ = some (.int .i64 (sv two G rest j))) := fun j hj wx hb => (hb.cell (p := ⟨g, j, none⟩) hgd2).trans (HGV.out j hj)
            clear HGV x0 x1
            go_loopw [14] (fun vk wr => ∃ (m : Nat) (pv : Value), vk = .int .i64 ((m * D : Nat) : Int) ∧ m ≤ N ∧ Hid (LP2 ws wr I W H pv ((List.range m).map (fun m => pxS two D G (chunk (D * BY) rest m))))) (fun vk _ => NN - (intOf vk).toNat)
            case atStart => exact ⟨0, _, by simp, Nat.zero_le _, hlp0⟩
            case round =>
              clear hlp0
              obtain ⟨m, pv, rfl, hm, hl2⟩ := hrel
              obtain ⟨acc, hacc⟩ : ∃ acc, acc = (List.range m).map (fun m => pxS two D G (chunk (D * BY) rest m)) := ⟨_, rfl⟩
              have hal : acc.length ≤ 65536 := by rw [hacc]; simp; omega
              rw [← hacc] at hl2
              have HACC := Lib.hid hacc
              clear hacc
              obtain ⟨kk, hkk⟩ : ∃ kk, m * D = kk := ⟨_, rfl⟩
              rw [hkk]
              by_cases hlt : kk < NN
              · have dlt : decide ((kk : Int) < (NN : Int)) = true := by simp; omega
                have hmN : m < N := by
                  have h1 := HNN.out
                  rcases Nat.lt_or_ge m N with h | h
                  · exact h
                  · have := Nat.mul_le_mul_right D h
                    omega
                have hkD : kk + D ≤ NN := by
                  have h1 := HNN.out
                  have := Nat.mul_le_mul_right D (show m + 1 ≤ N from hmN)
                  rw [Nat.add_mul, Nat.one_mul, hkk] at this; omega
                have x2 : wr.cell? ⟨K, 2, none⟩ = some (.int .i64 D) := HX2.out wr hl2.out.be
                obtain ⟨vk0, hv0⟩ : ∃ v, v = sv two G rest kk := ⟨_, rfl⟩
                have HA0 : Hid (∀ wx, Below I ws wx → wx.cell? ⟨g, kk, none⟩ = some (.int .i64 vk0)) := by rw [hv0]; exact HGV2.out kk (by omega)
                have HV0 := Lib.hid hv0
                have HKK := Lib.hid hkk
                clear hkk hv0
                go_upto_region 35 with fail
                go_cut [15] from 146 to 199 (fun v15 wx => ∃ A : Nat, v15 = .pointer (some ⟨A, 0, none⟩) ∧ Hid (Blk wx A 40 (pxC (vk0, vk0, vk0, 65535))) ∧ Hid (LP2 ws wx I W H pv acc ∧ I < A ∧ pv.ownBlock ≠ some A))
                case first =>
                  have a0 : wr.cell? ⟨g, kk, none⟩ = some (.int .i64 vk0) := HA0.out wr hl2.out.be
                  have a0a : ∀ o, (wr.alloc o).cell? ⟨g, kk, none⟩ = some (.int .i64 vk0) := fun o => HA0.out _ (hl2.out.alloc o).be
                  go_region
                  all_goals
                    go_wp2_with fail
                    go_meet
                    case rel =>
                      first
                      | with_reducible exact lpx_after hl2.out
                      | with_reducible exact lpx_before hl2.out
                case rest =>
                  obtain ⟨A, rfl, HA, hla⟩ := hcut
                  obtain ⟨hl2, hIA, hob⟩ := hla.out
                  obtain ⟨wy, hwy⟩ : ∃ wy, wy = wc := ⟨_, rfl⟩
                  rw [← hwy] at HA hl2 ⊢
                  clear hwy hla
                  have HL2 := Lib.hid hl2
                  have HOB := Lib.hid hob
                  clear hl2 hob
                  have x2 : wy.cell? ⟨K, 2, none⟩ = some (.int .i64 D) := HX2.out wy HL2.out.be
                  have hD4 : D = 1 ∨ D = 2 ∨ D = 3 ∨ D = 4 := by omega
                  rcases hD4 with rfl | rfl | rfl | rfl
                  · have HPX : Hid (pxS two 1 G (chunk (1 * BY) rest m) = (vk0, vk0, vk0, 65535)) := by
                      show _ = _
                      rw [HTB.out, pxS_1, HKK.out, ← HV0.out]
                    clear HGV2
                    obtain ⟨q0, q1, q2, q3⟩ := px_cells HA.out
                    have y2 : wy.cell? ⟨I, 2, none⟩ = some pv := HL2.out.ix.cell 2
                    have zz := HL2.out.ix.frozen 2
                    have hown := HL2.out.po
                    have hlt2 := HL2.out.lt
                    obtain ⟨x9, c9, hpv⟩ := pown_shape hown
                    subst hpv
                    have hszI : I ≤ wy.heap.size := by omega
                    go_wp2_with (at_builtin; refine wpList_app el_pix hown hszI rfl rfl rfl (m := 0) rfl (by simp [Value.oneCell']) rfl (by omega) (by unfold maxLen; omega) ?_)
                    intro r2 cap2 w4 ho2 hg2 _
                    have hown2 := pown_more ho2 [(vk0, vk0, vk0, 65535)] rfl rfl
                    have HL4 := Lib.hid (lp2_next HL2.out hown2 hg2)
                    have y2' : w4.cell? ⟨I, 2, none⟩ = some (.slice x9 acc.length c9) := HL4.out.1.cell 2
                    have zz' := HL4.out.1.frozen 2
                    have HL5 := Lib.hid HL4.out.2
                    clear ho2 hg2 hown y2 zz q0 q1 q2 q3 hlt2 hown2
                    go_upto_region 34 with fail
                    clear y2' zz' HL4 x2 hl2
                    generalize w4.setCell ⟨I, 2, none⟩ (.slice (some ⟨r2, 0, none⟩) (acc.length + 1) cap2) = w6 at *
                    have x2n := HX2.out w6 HL5.out.be
                    go_wp2_with fail
                    have HMN : Hid (m + 1 ≤ N) := hmN
                    have HE : Hid ((List.range (m + 1)).map (fun m => pxS two 1 G (chunk (1 * BY) rest m)) = acc ++ [(vk0, vk0, vk0, 65535)]) := by
                      show _ = _
                      rw [List.range_succ, List.map_append, ← HACC.out, List.map_cons, List.map_nil, HPX.out]
                    refine ⟨⟨m + 1, .slice (some ⟨r2, 0, none⟩) (acc.length + 1) cap2, ?_, HMN.out, ?_⟩, ?_⟩
                    · have h9 : (m + 1) * 1 = kk + 1 := by rw [Nat.add_mul, Nat.one_mul, HKK.out]
                      rw [h9]; exact congrArg _ (by omega)
                    · show LP2 _ _ _ _ _ _ _
                      rw [HE.out]
                      exact HL5.out
                    · simp only [intOf]; omega
                  · obtain ⟨vk1, hv1⟩ : ∃ v, v = sv two G rest (kk + 1) := ⟨_, rfl⟩
                    have HA1 : Hid (∀ wx, Below I ws wx → wx.cell? ⟨g, kk + 1, none⟩ = some (.int .i64 vk1)) := by rw [hv1]; exact HGV2.out (kk + 1) (by omega)
                    have HPX : Hid (pxS two 2 G (chunk (2 * BY) rest m) = (vk0, vk0, vk0, vk1)) := by
                      show _ = _
                      rw [HTB.out, pxS_2, HKK.out, ← HV0.out, ← hv1]
                    clear HGV2 hv1
                    have a1 : wy.cell? ⟨g, kk + 1, none⟩ = some (.int .i64 vk1) := HA1.out wy HL2.out.be
                    have p3 : wy.cell? ⟨A, 3, none⟩ = some (.int .i64 65535) := HA.out.cell 3
                    have z3 := HA.out.frozen 3
                    have HAc : Hid (Blk (wy.setCell ⟨A, 3, none⟩ (.int .i64 vk1)) A 40 (pxC (vk0, vk0, vk0, vk1))) := HA.out.put 3 _
                    have HL2c : Hid (LP2 ws (wy.setCell ⟨A, 3, none⟩ (.int .i64 vk1)) I W H pv acc) := HL2.out.put hIA HOB.out 3 _
                    go_upto_region 40 with fail
                    clear HA HL2 x2 p3 z3
                    generalize wy.setCell ⟨A, 3, none⟩ (.int .i64 vk1) = wy3 at *
                    have HA := HAc
                    have HL2 := HL2c
                    clear HAc HL2c
                    obtain ⟨q0, q1, q2, q3⟩ := px_cells HA.out
                    have y2 : wy3.cell? ⟨I, 2, none⟩ = some pv := HL2.out.ix.cell 2
                    have zz := HL2.out.ix.frozen 2
                    have hown := HL2.out.po
                    have hlt2 := HL2.out.lt
                    obtain ⟨x9, c9, hpv⟩ := pown_shape hown
                    subst hpv
                    have hszI : I ≤ wy3.heap.size := by omega
                    go_wp2_with (at_builtin; refine wpList_app el_pix hown hszI rfl rfl rfl (m := 0) rfl (by simp [Value.oneCell']) rfl (by omega) (by unfold maxLen; omega) ?_)
                    intro r2 cap2 w4 ho2 hg2 _
                    have hown2 := pown_more ho2 [(vk0, vk0, vk0, vk1)] rfl rfl
                    have HL4 := Lib.hid (lp2_next HL2.out hown2 hg2)
                    have y2' : w4.cell? ⟨I, 2, none⟩ = some (.slice x9 acc.length c9) := HL4.out.1.cell 2
                    have zz' := HL4.out.1.frozen 2
                    have HL5 := Lib.hid HL4.out.2
                    clear ho2 hg2 hown y2 zz q0 q1 q2 q3 hlt2 hown2
                    go_upto_region 34 with fail
                    clear y2' zz' HL4 x2 hl2
                    generalize w4.setCell ⟨I, 2, none⟩ (.slice (some ⟨r2, 0, none⟩) (acc.length + 1) cap2) = w6 at *
                    have x2n := HX2.out w6 HL5.out.be
                    go_wp2_with fail
                    have HMN : Hid (m + 1 ≤ N) := hmN
                    have HE : Hid ((List.range (m + 1)).map (fun m => pxS two 2 G (chunk (2 * BY) rest m)) = acc ++ [(vk0, vk0, vk0, vk1)]) := by
                      show _ = _
                      rw [List.range_succ, List.map_append, ← HACC.out, List.map_cons, List.map_nil, HPX.out]
                    refine ⟨⟨m + 1, .slice (some ⟨r2, 0, none⟩) (acc.length + 1) cap2, ?_, HMN.out, ?_⟩, ?_⟩
                    · have h9 : (m + 1) * 2 = kk + 2 := by rw [Nat.add_mul, Nat.one_mul, HKK.out]
                      rw [h9]; exact congrArg _ (by omega)
                    · show LP2 _ _ _ _ _ _ _
                      rw [HE.out]
                      exact HL5.out
                    · simp only [intOf]; omega
                  · obtain ⟨vk1, hv1⟩ : ∃ v, v = sv two G rest (kk + 1) := ⟨_, rfl⟩
                    have HA1 : Hid (∀ wx, Below I ws wx → wx.cell? ⟨g, kk + 1, none⟩ = some (.int .i64 vk1)) := by rw [hv1]; exact HGV2.out (kk + 1) (by omega)
                    obtain ⟨vk2, hv2⟩ : ∃ v, v = sv two G rest (kk + 2) := ⟨_, rfl⟩
                    have HA2 : Hid (∀ wx, Below I ws wx → wx.cell? ⟨g, kk + 2, none⟩ = some (.int .i64 vk2)) := by rw [hv2]; exact HGV2.out (kk + 2) (by omega)
                    have HPX : Hid (pxS two 3 G (chunk (3 * BY) rest m) = (vk0, vk1, vk2, 65535)) := by
                      show _ = _
                      rw [HTB.out, pxS_3, HKK.out, ← HV0.out, ← hv1, ← hv2]
                    clear HGV2 hv1 hv2
                    have a1 : wy.cell? ⟨g, kk + 1, none⟩ = some (.int .i64 vk1) := HA1.out wy HL2.out.be
                    have a2 : wy.cell? ⟨g, kk + 2, none⟩ = some (.int .i64 vk2) := HA2.out wy HL2.out.be
                    have p0 : wy.cell? ⟨A, 0, none⟩ = some (.int .i64 vk0) := HA.out.cell 0
                    have p1 : wy.cell? ⟨A, 1, none⟩ = some (.int .i64 vk0) := HA.out.cell 1
                    have p2 : wy.cell? ⟨A, 2, none⟩ = some (.int .i64 vk0) := HA.out.cell 2
                    have z1 := HA.out.frozen 1
                    have z2 := HA.out.frozen 2
                    go_wp2_with fail
                    go_region
                    have HAb : Hid (Blk ((wy.setCell ⟨A, 1, none⟩ (.int .i64 vk1)).setCell ⟨A, 2, none⟩ (.int .i64 vk2)).drew A 40 (pxC (vk0, vk1, vk2, 65535))) := ((HA.out.put 1 _).put 2 _).drew
                    have HL2b : Hid (LP2 ws ((wy.setCell ⟨A, 1, none⟩ (.int .i64 vk1)).setCell ⟨A, 2, none⟩ (.int .i64 vk2)).drew I W H pv acc) := ((HL2.out.put hIA HOB.out 1 _).put hIA HOB.out 2 _).drew
                    clear HA HL2 x2 p0 p1 p2 z1 z2 a1 a2
                    generalize ((wy.setCell ⟨A, 1, none⟩ (.int .i64 vk1)).setCell ⟨A, 2, none⟩ (.int .i64 vk2)).drew = wy2 at *
                    have HA := HAb
                    have HL2 := HL2b
                    clear HAb HL2b
                    have x2 : wy2.cell? ⟨K, 2, none⟩ = some (.int .i64 3) := HX2.out wy2 HL2.out.be
                    obtain ⟨q0, q1, q2, q3⟩ := px_cells HA.out
                    have y2 : wy2.cell? ⟨I, 2, none⟩ = some pv := HL2.out.ix.cell 2
                    have zz := HL2.out.ix.frozen 2
                    have hown := HL2.out.po
                    have hlt2 := HL2.out.lt
                    obtain ⟨x9, c9, hpv⟩ := pown_shape hown
                    subst hpv
                    have hszI : I ≤ wy2.heap.size := by omega
                    go_wp2_with (at_builtin; refine wpList_app el_pix hown hszI rfl rfl rfl (m := 0) rfl (by simp [Value.oneCell']) rfl (by omega) (by unfold maxLen; omega) ?_)
                    intro r2 cap2 w4 ho2 hg2 _
                    have hown2 := pown_more ho2 [(vk0, vk1, vk2, 65535)] rfl rfl
                    have HL4 := Lib.hid (lp2_next HL2.out hown2 hg2)
                    have y2' : w4.cell? ⟨I, 2, none⟩ = some (.slice x9 acc.length c9) := HL4.out.1.cell 2
                    have zz' := HL4.out.1.frozen 2
                    have HL5 := Lib.hid HL4.out.2
                    clear ho2 hg2 hown y2 zz q0 q1 q2 q3 hlt2 hown2
                    go_upto_region 34 with fail
                    clear y2' zz' HL4 x2 hl2
                    generalize w4.setCell ⟨I, 2, none⟩ (.slice (some ⟨r2, 0, none⟩) (acc.length + 1) cap2) = w6 at *
                    have x2n := HX2.out w6 HL5.out.be
                    go_wp2_with fail
                    have HMN : Hid (m + 1 ≤ N) := hmN
                    have HE : Hid ((List.range (m + 1)).map (fun m => pxS two 3 G (chunk (3 * BY) rest m)) = acc ++ [(vk0, vk1, vk2, 65535)]) := by
                      show _ = _
                      rw [List.range_succ, List.map_append, ← HACC.out, List.map_cons, List.map_nil, HPX.out]
                    refine ⟨⟨m + 1, .slice (some ⟨r2, 0, none⟩) (acc.length + 1) cap2, ?_, HMN.out, ?_⟩, ?_⟩
                    · have h9 : (m + 1) * 3 = kk + 3 := by rw [Nat.add_mul, Nat.one_mul, HKK.out]
                      rw [h9]; exact congrArg _ (by omega)
                    · show LP2 _ _ _ _ _ _ _
                      rw [HE.out]
                      exact HL5.out
                    · simp only [intOf]; omega
                  · obtain ⟨vk1, hv1⟩ : ∃ v, v = sv two G rest (kk + 1) := ⟨_, rfl⟩
                    have HA1 : Hid (∀ wx, Below I ws wx → wx.cell? ⟨g, kk + 1, none⟩ = some (.int .i64 vk1)) := by rw [hv1]; exact HGV2.out (kk + 1) (by omega)
                    obtain ⟨vk2, hv2⟩ : ∃ v, v = sv two G rest (kk + 2) := ⟨_, rfl⟩
                    have HA2 : Hid (∀ wx, Below I ws wx → wx.cell? ⟨g, kk + 2, none⟩ = some (.int .i64 vk2)) := by rw [hv2]; exact HGV2.out (kk + 2) (by omega)
                    obtain ⟨vk3, hv3⟩ : ∃ v, v = sv two G rest (kk + 3) := ⟨_, rfl⟩
                    have HA3 : Hid (∀ wx, Below I ws wx → wx.cell? ⟨g, kk + 3, none⟩ = some (.int .i64 vk3)) := by rw [hv3]; exact HGV2.out (kk + 3) (by omega)
                    have HPX : Hid (pxS two 4 G (chunk (4 * BY) rest m) = (vk0, vk1, vk2, vk3)) := by
                      show _ = _
                      rw [HTB.out, pxS_4, HKK.out, ← HV0.out, ← hv1, ← hv2, ← hv3]
                    clear HGV2 hv1 hv2 hv3
                    have a1 : wy.cell? ⟨g, kk + 1, none⟩ = some (.int .i64 vk1) := HA1.out wy HL2.out.be
                    have a2 : wy.cell? ⟨g, kk + 2, none⟩ = some (.int .i64 vk2) := HA2.out wy HL2.out.be
                    have a3 : wy.cell? ⟨g, kk + 3, none⟩ = some (.int .i64 vk3) := HA3.out wy HL2.out.be
                    have p0 : wy.cell? ⟨A, 0, none⟩ = some (.int .i64 vk0) := HA.out.cell 0
                    have p1 : wy.cell? ⟨A, 1, none⟩ = some (.int .i64 vk0) := HA.out.cell 1
                    have p2 : wy.cell? ⟨A, 2, none⟩ = some (.int .i64 vk0) := HA.out.cell 2
                    have z1 := HA.out.frozen 1
                    have z2 := HA.out.frozen 2
                    go_wp2_with fail
                    go_region
                    have HAb : Hid (Blk ((wy.setCell ⟨A, 1, none⟩ (.int .i64 vk1)).setCell ⟨A, 2, none⟩ (.int .i64 vk2)).drew A 40 (pxC (vk0, vk1, vk2, 65535))) := ((HA.out.put 1 _).put 2 _).drew
                    have HL2b : Hid (LP2 ws ((wy.setCell ⟨A, 1, none⟩ (.int .i64 vk1)).setCell ⟨A, 2, none⟩ (.int .i64 vk2)).drew I W H pv acc) := ((HL2.out.put hIA HOB.out 1 _).put hIA HOB.out 2 _).drew
                    clear HA HL2 x2 p0 p1 p2 z1 z2 a1 a2 a3
                    generalize ((wy.setCell ⟨A, 1, none⟩ (.int .i64 vk1)).setCell ⟨A, 2, none⟩ (.int .i64 vk2)).drew = wy2 at *
                    have HA := HAb
                    have HL2 := HL2b
                    clear HAb HL2b
                    have x2 : wy2.cell? ⟨K, 2, none⟩ = some (.int .i64 4) := HX2.out wy2 HL2.out.be
                    have a3 : wy2.cell? ⟨g, kk + 3, none⟩ = some (.int .i64 vk3) := HA3.out wy2 HL2.out.be
                    have p3 : wy2.cell? ⟨A, 3, none⟩ = some (.int .i64 65535) := HA.out.cell 3
                    have z3 := HA.out.frozen 3
                    have HAc : Hid (Blk (wy2.setCell ⟨A, 3, none⟩ (.int .i64 vk3)) A 40 (pxC (vk0, vk1, vk2, vk3))) := HA.out.put 3 _
                    have HL2c : Hid (LP2 ws (wy2.setCell ⟨A, 3, none⟩ (.int .i64 vk3)) I W H pv acc) := HL2.out.put hIA HOB.out 3 _
                    go_upto_region 40 with fail
                    clear HA HL2 x2 p3 z3
                    generalize wy2.setCell ⟨A, 3, none⟩ (.int .i64 vk3) = wy3 at *
                    have HA := HAc
                    have HL2 := HL2c
                    clear HAc HL2c
                    obtain ⟨q0, q1, q2, q3⟩ := px_cells HA.out
                    have y2 : wy3.cell? ⟨I, 2, none⟩ = some pv := HL2.out.ix.cell 2
                    have zz := HL2.out.ix.frozen 2
                    have hown := HL2.out.po
                    have hlt2 := HL2.out.lt
                    obtain ⟨x9, c9, hpv⟩ := pown_shape hown
                    subst hpv
                    have hszI : I ≤ wy3.heap.size := by omega
                    go_wp2_with (at_builtin; refine wpList_app el_pix hown hszI rfl rfl rfl (m := 0) rfl (by simp [Value.oneCell']) rfl (by omega) (by unfold maxLen; omega) ?_)
                    intro r2 cap2 w4 ho2 hg2 _
                    have hown2 := pown_more ho2 [(vk0, vk1, vk2, vk3)] rfl rfl
                    have HL4 := Lib.hid (lp2_next HL2.out hown2 hg2)
                    have y2' : w4.cell? ⟨I, 2, none⟩ = some (.slice x9 acc.length c9) := HL4.out.1.cell 2
                    have zz' := HL4.out.1.frozen 2
                    have HL5 := Lib.hid HL4.out.2
                    clear ho2 hg2 hown y2 zz q0 q1 q2 q3 hlt2 hown2
                    go_upto_region 34 with fail
                    clear y2' zz' HL4 x2 hl2
                    generalize w4.setCell ⟨I, 2, none⟩ (.slice (some ⟨r2, 0, none⟩) (acc.length + 1) cap2) = w6 at *
                    have x2n := HX2.out w6 HL5.out.be
                    go_wp2_with fail
                    have HMN : Hid (m + 1 ≤ N) := hmN
                    have HE : Hid ((List.range (m + 1)).map (fun m => pxS two 4 G (chunk (4 * BY) rest m)) = acc ++ [(vk0, vk1, vk2, vk3)]) := by
                      show _ = _
                      rw [List.range_succ, List.map_append, ← HACC.out, List.map_cons, List.map_nil, HPX.out]
                    refine ⟨⟨m + 1, .slice (some ⟨r2, 0, none⟩) (acc.length + 1) cap2, ?_, HMN.out, ?_⟩, ?_⟩
                    · have h9 : (m + 1) * 4 = kk + 4 := by rw [Nat.add_mul, Nat.one_mul, HKK.out]
                      rw [h9]; exact congrArg _ (by omega)
                    · show LP2 _ _ _ _ _ _ _
                      rw [HE.out]
                      exact HL5.out
                    · simp only [intOf]; omega
              · have dlt : decide ((kk : Int) < (NN : Int)) = false := by simp; omega
                have hmN : m = N := by
                  have h1 := HNN.out
                  rcases Nat.lt_or_ge m N with h | h
                  · have := Nat.mul_le_mul_right D (show m + 1 ≤ N from h)
                    rw [Nat.add_mul, Nat.one_mul, hkk] at this; omega
                  · omega
                have HACP : Hid (acc = pixL two D G (D * BY) N rest) := by show _ = _; rw [HACC.out, hmN]; rfl
                have hbi := hl2.out.ix
                have y0 : wr.cell? ⟨I, 0, none⟩ = some (.int .i64 W) := hbi.cell 0
                have y1 : wr.cell? ⟨I, 1, none⟩ = some (.int .i64 H) := hbi.cell 1
                have y2 : wr.cell? ⟨I, 2, none⟩ = some pv := hbi.cell 2
                have x5 : wr.cell? ⟨K, 5, none⟩ = some (.slice xm ms.length cm) := (hl2.out.be.cell (p := ⟨K, 5, none⟩) (by have := HHW.out.lt; have := HI.out; show K < I; omega)).trans ((HHW.out.cell 5).trans (hd6_g5 _ _ _ _ _ _))
                have HBR : Hid (Blk wr B 24 img0) := (hl2.out.be.block B (by have := HBW.out.lt; have := HI.out; omega)).trans HBW.out
                have r0 : wr.cell? ⟨B, 0, none⟩ = some (.int .i64 0) := HBR.out.cell 0
                have r1 : wr.cell? ⟨B, 1, none⟩ = some (.int .i64 0) := HBR.out.cell 1
                have r2 : wr.cell? ⟨B, 2, none⟩ = some (.slice none 0 0) := HBR.out.cell 2
                have f0 := HBR.out.frozen 0
                have f1 := HBR.out.frozen 1
                have f2 := HBR.out.frozen 2
                have HFN := Lib.hid (lp2_fin hl2.out HBR.out (by have := HBW.out.lt; have := HI.out; omega) (HMW.out.below (by rw [HI.out]; exact hl2.out.be)) (HBEW.out.trans (hl2.out.be.mono (by have := HBW.out.lt; have := HI.out; omega))))
                obtain ⟨x9, c9, hpv⟩ := pown_shape hl2.out.po
                subst hpv
                clear hbi hkk hmN hm HGV2
                go_wp2_with fail
                go_region
                obtain ⟨z1, z2, z3, z4⟩ := HFN.out
                go_wp2_with fail
                refine bodyPost_ret (v := .tuple #[.agg (imgC W H (.slice x9 acc.length c9)), .slice xm ms.length cm, .int .i64 0]) (results_ctt rfl _ _ B 24 (imgC W H (.slice x9 acc.length c9)) (0, 0) _ _ _ rfl rfl rfl z1 Try.underlying24 rfl (imgC_inf _ _ _)) rfl ⟨?_, by rw [HB.out]; exact z4⟩
                rw [HFIN.out, ← HACP.out]
                exact ⟨_, _, rfl, z2, z3⟩
end Go.Proofs.Ytakkdgcmeeilbaa
