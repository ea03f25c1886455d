/-
  What a round of Parse holds: frames, boxes, the row.
-/
import Derived.Test.YtgjbelcnkmcbiaaDoorSp
import Derived.Test.YtgjbelcnkmcbiaaDoorQk
namespace Go.Proofs.YtgjbelcnkmcbiaaDoor
open Go.RowKit Go.Shelf

/-- What a round of Parse may turn: the boxes k .. k + 6, and cells from k + 10 on. -/
structure BF (k : Nat) (W W' : World) : Prop where
  os : W'.os = W.os
  tape : W'.tape = W.tape
  output : W'.output = W.output
  size : W.heap.size ≤ W'.heap.size
  same : ∀ j, j < W.heap.size → (j < k ∨ (k + 7 ≤ j ∧ j < k + 10) ∨ ∃ o : Obj, W.heap[j]? = some o ∧ o.isCells = false) → W'.heap[j]? = W.heap[j]?
theorem BF.refl (k : Nat) (W : World) : BF k W W := ⟨rfl, rfl, rfl, Nat.le_refl _, fun _ _ _ => rfl⟩
theorem BF.trans {k : Nat} {A B C : World} (h : BF k A B) (h' : BF k B C) : BF k A C :=
  ⟨h'.os.trans h.os, h'.tape.trans h.tape, h'.output.trans h.output, Nat.le_trans h.size h'.size, fun j hj hc => by
    have e := h.same j hj hc
    refine (h'.same j (Nat.lt_of_lt_of_le hj h.size) ?_).trans e
    rw [e]; exact hc⟩
theorem BF.of_below {k : Nat} {A B : World} (h : Below A.heap.size A B) : BF k A B := ⟨h.os, h.tape, h.output, h.size, fun j hj _ => h.block j hj⟩
theorem BF.alloc (k : Nat) (W : World) (o : Obj) : BF k W (W.alloc o) := BF.of_below ((Below.refl _ _).alloc (Nat.le_refl _) o)
theorem BF.drew (k : Nat) (W : World) : BF k W W.drew := BF.of_below (Below.refl _ _).drew
theorem BF.drewN (k n : Nat) (W : World) : BF k W (W.drewN n) := BF.of_below (below_drewN (Below.refl _ _) n)
theorem BF.put {k j i : Nat} {W : World} {t : TypeId} {cs : Array Value} (hb : Blk W j t cs) (h : k ≤ j ∧ (j < k + 7 ∨ k + 10 ≤ j)) (u : Value) : BF k W (W.setCell ⟨j, i, none⟩ u) :=
  ⟨rfl, rfl, rfl, by simp [World.setCell], fun m hm hc => Below.heap_setCell W _ u m (fun e => by
    have e : m = j := e
    subst e
    rcases hc with h1 | h1 | ⟨o, h1, h2⟩
    · omega
    · omega
    · unfold Blk at hb; rw [hb] at h1; injection h1 with h1; subst h1; cases h2)⟩
theorem BF.grown {k base : Nat} {W W' : World} {e : TypeId} {size n : Nat} {v : Value} {xs : List Value} (ho : W.ownsRow base e size v n xs) (hb : k + 10 ≤ base) (hg : W.grownBy W' v.ownBlock) : BF k W W' :=
  ⟨hg.os, hg.tape, hg.output, hg.size, fun j hj hc => hg.block j hj (fun eq => by
    rcases ho.2 with ⟨rfl, _⟩ | ⟨g, cap, cur, rfl, hbg, hh, _⟩
    · simp [Value.ownBlock] at eq
    · have : j = g := by simpa [Value.ownBlock] using eq
      subst this
      rcases hc with h1 | h1 | ⟨o, h1, h2⟩
      · omega
      · omega
      · rw [hh] at h1; injection h1 with h1; subst h1; cases h2)⟩
theorem BF.row {k g c n i : Nat} {W : World} {e : TypeId} {size : Nat} {xs : List Value} (ho : W.ownsRow (k + 10) e size (.slice (some ⟨g, 0, none⟩) n c) n xs) (u : Value) : BF k W (W.setCell ⟨g, i, none⟩ u) := by
  rcases ho.2 with ⟨h, _⟩ | ⟨g', cap, cur, h, hbg, hh, _⟩
  · cases h
  · injection h with h h2 h3
    injection h with h
    injection h with h
    subst h
    exact BF.put hh (by omega) u
theorem BF.keeps {k : Nat} {W W' : World} (h : BF k W W') (B : Nat) : KeepsFrom B W W' :=
  ⟨h.size, fun j o _ ho hc => (h.same j (Array.getElem?_eq_some_iff.1 ho).1 (.inr (.inr ⟨o, ho, hc⟩))).trans ho⟩
theorem BF.kblk {k : Nat} {W W' : World} (h : BF k W W') (hs : k + 10 ≤ W.heap.size) : KBlk (k + 7) (k + 10) W W' :=
  ⟨h.size, fun j h1 h2 => h.same j (by omega) (.inr (.inl ⟨h1, h2⟩))⟩
theorem BF.below {k : Nat} {w W W' : World} (h : BF k W W') (hb : Below k w W) (hs : k ≤ W.heap.size) : Below k w W' :=
  hb.trans ⟨h.os, h.tape, h.output, h.size, fun j hj => h.same j (by omega) (.inl hj)⟩

/-- Between two steps of a round: the boxes (vb: what the box of the slice holds), the row v. -/
structure PJ (k : Nat) (w : World) (l : List Sg) (rd ms a : Int) (vb v : Value) (W : World) : Prop where
  r0 : Blk W k 22 #[.slice none 0 0]
  r1 : Blk W (k + 1) 3 #[.int .i64 0]
  r2 : Blk W (k + 2) 24 #[.int .i64 0]
  bl : Blk W (k + 3) 22 #[vb]
  br : Blk W (k + 4) 3 #[.int .i64 rd]
  bm : Blk W (k + 5) 3 #[.int .i64 ms]
  ba : Blk W (k + 6) 3 #[.int .i64 a]
  ow : SOwn W (k + 10) v l
  sz : k + 10 ≤ W.heap.size
  bw : Below k w W
/-- Between two rounds. -/
def PI (k : Nat) (w : World) (st : PS) (v : Value) (W : World) : Prop := PJ k w st.l st.rd st.ms st.at_ v v W
variable {k : Nat} {w : World} {l : List Sg} {rd ms a : Int} {vb v : Value} {W : World}
theorem PJ.below {W' : World} (h : PJ k w l rd ms a vb v W) (hb : Below W.heap.size W W') : PJ k w l rd ms a vb v W' :=
  ⟨(hb.block _ h.r0.lt).trans h.r0, (hb.block _ h.r1.lt).trans h.r1, (hb.block _ h.r2.lt).trans h.r2, (hb.block _ h.bl.lt).trans h.bl, (hb.block _ h.br.lt).trans h.br, (hb.block _ h.bm.lt).trans h.bm, (hb.block _ h.ba.lt).trans h.ba,
   (Fr.of_below (B := 0) hb []).owns h.ow (by simp), Nat.le_trans h.sz hb.size, (BF.of_below hb).below h.bw (by have := h.sz; omega)⟩
theorem sown_blk {base j : Nat} {t : TypeId} {cs : Array Value} (h : SOwn W base v l) (_ : Blk W j t cs) (hj : j < base) : v.ownBlock ≠ some j := by
  rcases h.2 with ⟨rfl, _⟩ | ⟨g, cap, cur, rfl, hbg, _⟩
  · simp [Value.ownBlock]
  · intro e
    have : g = j := by simpa [Value.ownBlock] using e
    omega
theorem PJ.grown {W' : World} {o : Obj} {l' : List Sg} {v' : Value} (h : PJ k w l rd ms a vb v W) (h5 : SOwn W' (k + 10) v' l') (hg : (W.alloc o).grownBy W' v.ownBlock) : PJ k w l' rd ms a vb v' W' ∧ BF k W W' := by
  have hoa : (W.alloc o).ownsRow (k + 10) 35 7 v l.length (scells l) := World.ownsRow.alloc h.ow o
  have hbf : BF k W W' := (BF.alloc k W o).trans (BF.grown hoa (Nat.le_refl _) hg)
  have key : ∀ j t cs, Blk W j t cs → j < k + 10 → Blk W' j t cs := fun j t cs hb hj =>
    (hg.block j (by have := hb.lt; simp; omega) (fun e => sown_blk h.ow hb hj e.symm)).trans (hb.alloc o)
  exact ⟨⟨key _ _ _ h.r0 (by omega), key _ _ _ h.r1 (by omega), key _ _ _ h.r2 (by omega), key _ _ _ h.bl (by omega), key _ _ _ h.br (by omega), key _ _ _ h.bm (by omega), key _ _ _ h.ba (by omega), h5, Nat.le_trans h.sz hbf.size, hbf.below h.bw (by have := h.sz; omega)⟩, hbf⟩
theorem PJ.put3 (h : PJ k w l rd ms a vb v W) (u : Value) : PJ k w l rd ms a u v (W.setCell ⟨k + 3, 0, none⟩ u) ∧ BF k W (W.setCell ⟨k + 3, 0, none⟩ u) := by
  have hbf := BF.put (k := k) (i := 0) h.bl (by omega) u
  have o : ∀ {j t cs}, Blk W j t cs → j ≠ k + 3 → Blk (W.setCell ⟨k + 3, 0, none⟩ u) j t cs := fun hb hj => hb.other (p := ⟨k + 3, 0, none⟩) hj u
  exact ⟨⟨o h.r0 (by omega), o h.r1 (by omega), o h.r2 (by omega), h.bl.put 0 u, o h.br (by omega), o h.bm (by omega), o h.ba (by omega), ownsRow_setCell_below h.ow (by show k + 3 < k + 10; omega) u, Nat.le_trans h.sz hbf.size, hbf.below h.bw (by have := h.sz; omega)⟩, hbf⟩
theorem PJ.put4 (h : PJ k w l rd ms a vb v W) (u : Int) : PJ k w l u ms a vb v (W.setCell ⟨k + 4, 0, none⟩ (.int .i64 u)) ∧ BF k W (W.setCell ⟨k + 4, 0, none⟩ (.int .i64 u)) := by
  have hbf := BF.put (k := k) (i := 0) h.br (by omega) (.int .i64 u)
  have o : ∀ {j t cs}, Blk W j t cs → j ≠ k + 4 → Blk (W.setCell ⟨k + 4, 0, none⟩ (.int .i64 u)) j t cs := fun hb hj => hb.other (p := ⟨k + 4, 0, none⟩) hj _
  exact ⟨⟨o h.r0 (by omega), o h.r1 (by omega), o h.r2 (by omega), o h.bl (by omega), h.br.put 0 _, o h.bm (by omega), o h.ba (by omega), ownsRow_setCell_below h.ow (by show k + 4 < k + 10; omega) _, Nat.le_trans h.sz hbf.size, hbf.below h.bw (by have := h.sz; omega)⟩, hbf⟩
theorem PJ.put5 (h : PJ k w l rd ms a vb v W) (u : Int) : PJ k w l rd u a vb v (W.setCell ⟨k + 5, 0, none⟩ (.int .i64 u)) ∧ BF k W (W.setCell ⟨k + 5, 0, none⟩ (.int .i64 u)) := by
  have hbf := BF.put (k := k) (i := 0) h.bm (by omega) (.int .i64 u)
  have o : ∀ {j t cs}, Blk W j t cs → j ≠ k + 5 → Blk (W.setCell ⟨k + 5, 0, none⟩ (.int .i64 u)) j t cs := fun hb hj => hb.other (p := ⟨k + 5, 0, none⟩) hj _
  exact ⟨⟨o h.r0 (by omega), o h.r1 (by omega), o h.r2 (by omega), o h.bl (by omega), o h.br (by omega), h.bm.put 0 _, o h.ba (by omega), ownsRow_setCell_below h.ow (by show k + 5 < k + 10; omega) _, Nat.le_trans h.sz hbf.size, hbf.below h.bw (by have := h.sz; omega)⟩, hbf⟩
theorem PJ.put6 (h : PJ k w l rd ms a vb v W) (u : Int) : PJ k w l rd ms u vb v (W.setCell ⟨k + 6, 0, none⟩ (.int .i64 u)) ∧ BF k W (W.setCell ⟨k + 6, 0, none⟩ (.int .i64 u)) := by
  have hbf := BF.put (k := k) (i := 0) h.ba (by omega) (.int .i64 u)
  have o : ∀ {j t cs}, Blk W j t cs → j ≠ k + 6 → Blk (W.setCell ⟨k + 6, 0, none⟩ (.int .i64 u)) j t cs := fun hb hj => hb.other (p := ⟨k + 6, 0, none⟩) hj _
  exact ⟨⟨o h.r0 (by omega), o h.r1 (by omega), o h.r2 (by omega), o h.bl (by omega), o h.br (by omega), o h.bm (by omega), h.ba.put 0 _, ownsRow_setCell_below h.ow (by show k + 6 < k + 10; omega) _, Nat.le_trans h.sz hbf.size, hbf.below h.bw (by have := h.sz; omega)⟩, hbf⟩
theorem scells_set (l : List Sg) (z : Sg) (j : Nat) (n : Int) (h : j < 6) : (scells (l ++ [z])).set (l.length * 7 + 1 + j) (.int .i64 n) = scells (l ++ [putN z j n]) := by
  rw [scells_append, scells_append, List.set_append_right _ _ (by rw [scells_length]; omega), scells_length]
  congr 1
  simp only [scells, List.flatMap_cons, List.flatMap_nil, List.append_nil]
  rw [putN_cell z j n h]
  congr 1
  omega
/-- A number of the last segment is put. -/
theorem PJ.num {g c : Nat} {L : List Sg} {z : Sg} (h : PJ k w (L ++ [z]) rd ms a vb (.slice (some ⟨g, 0, none⟩) (L.length + 1) c) W) (j : Nat) (hj : j < 6) (n : Int) :
    PJ k w (L ++ [putN z j n]) rd ms a vb (.slice (some ⟨g, 0, none⟩) (L.length + 1) c) (W.setCell ⟨g, L.length * 7 + 1 + j, none⟩ (.int .i64 n)) ∧ BF k W (W.setCell ⟨g, L.length * 7 + 1 + j, none⟩ (.int .i64 n)) := by
  have hlen : ∀ z : Sg, (L ++ [z]).length = L.length + 1 := fun z => by simp
  have hw := h.ow
  unfold SOwn at hw
  rw [hlen] at hw
  have hbf := BF.row (i := L.length * 7 + 1 + j) hw (.int .i64 n)
  have hs := (World.ownsRow.stored hw (L.length * 7 + 1 + j) (.int .i64 n)).1
  rw [scells_set L z j n hj] at hs
  have hgk : k + 10 ≤ g := (World.ownsRow.lt hw g rfl).1
  have o : ∀ {j' t cs}, Blk W j' t cs → j' < k + 10 → Blk (W.setCell ⟨g, L.length * 7 + 1 + j, none⟩ (.int .i64 n)) j' t cs := fun hb hj' => hb.other (p := ⟨g, _, none⟩) (by show _ ≠ g; omega) _
  refine ⟨⟨o h.r0 (by omega), o h.r1 (by omega), o h.r2 (by omega), o h.bl (by omega), o h.br (by omega), o h.bm (by omega), o h.ba (by omega), ?_, Nat.le_trans h.sz hbf.size, hbf.below h.bw (by have := h.sz; omega)⟩, hbf⟩
  unfold SOwn
  rw [hlen]
  exact hs
/-- A round has returned. -/
structure PX (k : Nat) (w : World) (a : Nat) (W : World) : Prop where
  r0 : Blk W k 22 #[.slice none 0 0]
  r1 : Blk W (k + 1) 3 #[.int .i64 a]
  r2 : Blk W (k + 2) 24 #[.int .i64 4]
  sz : k + 10 ≤ W.heap.size
  bw : Below k w W
def PInv (k : Nat) (w : World) (pre : List (List UInt8)) (W : World) : Prop := ∃ st v, psRun pre = .ok st ∧ PI k w st v W
def PExt (k : Nat) (w : World) (c : Code) (pre : List (List UInt8)) (W : World) : Prop := c = .ret ∧ ∃ a, psRun pre = .error a ∧ PX k w a W
theorem blk_grown {W W' : World} {row : Option Nat} {B j : Nat} {t : TypeId} {cs : Array Value} (hb : Blk W j t cs) (hg : W.grownBy W' row) (hr : ∀ r, row = some r → B ≤ r ∧ ∃ o : Obj, W.heap[r]? = some o ∧ o.isCells = false) : Blk W' j t cs :=
  (hg.block j hb.lt (fun e => by
    obtain ⟨-, o, h1, h2⟩ := hr j e.symm
    unfold Blk at hb; rw [hb] at h1; injection h1 with h1; subst h1; cases h2)).trans hb
theorem below_grown {W W' w : World} {row : Option Nat} {B k : Nat} (hb : Below k w W) (hg : W.grownBy W' row) (hk : k ≤ B) (hs : k ≤ W.heap.size) (hr : ∀ r, row = some r → B ≤ r ∧ ∃ o : Obj, W.heap[r]? = some o ∧ o.isCells = false) : Below k w W' :=
  hb.trans ⟨hg.os, hg.tape, hg.output, hg.size, fun j hj => hg.block j (by omega) (fun e => by have := (hr j e.symm).1; omega)⟩
theorem sown_grown {W W' : World} {row : Option Nat} {B b : Nat} {v : Value} {l : List Sg} (h : SOwn W b v l) (hg : W.grownBy W' row) (hr : ∀ r, row = some r → B ≤ r ∧ ∃ o : Obj, W.heap[r]? = some o ∧ o.isCells = false) : SOwn W' b v l := by
  refine ⟨h.1, ?_⟩
  rcases h.2 with hn | ⟨g, cap, cur, rfl, hb, hgg, rest⟩
  · exact .inl hn
  · exact .inr ⟨g, cap, cur, rfl, hb, blk_grown hgg hg hr, rest⟩
theorem pinv_own (k : Nat) (w : World) : OwnFrom (k + 10) (PInv k w) := by
  rintro pre W W' row ⟨st, v, h1, h2⟩ hg hr
  exact ⟨st, v, h1, blk_grown h2.r0 hg hr, blk_grown h2.r1 hg hr, blk_grown h2.r2 hg hr, blk_grown h2.bl hg hr, blk_grown h2.br hg hr, blk_grown h2.bm hg hr, blk_grown h2.ba hg hr, sown_grown h2.ow hg hr, Nat.le_trans h2.sz hg.size, below_grown h2.bw hg (by omega) (by have := h2.sz; omega) hr⟩
theorem pext_own (k : Nat) (w : World) (c : Code) : OwnFrom (k + 10) (PExt k w c) := by
  rintro pre W W' row ⟨h0, a, h1, h2⟩ hg hr
  exact ⟨h0, a, h1, blk_grown h2.r0 hg hr, blk_grown h2.r1 hg hr, blk_grown h2.r2 hg hr, Nat.le_trans h2.sz hg.size, below_grown h2.bw hg (by omega) (by have := h2.sz; omega) hr⟩
theorem pinv_set (k : Nat) (w : World) (pre : List (List UInt8)) (A : World) (u : Value) (h : PInv k w pre A) : PInv k w pre (A.setCell ⟨k + 7, 0, none⟩ u) := by
  obtain ⟨st, v, h1, h2⟩ := h
  have o : ∀ {j t cs}, Blk A j t cs → j < k + 7 → Blk (A.setCell ⟨k + 7, 0, none⟩ u) j t cs := fun hb hj => hb.other (p := ⟨k + 7, 0, none⟩) (by show _ ≠ k + 7; omega) u
  exact ⟨st, v, h1, o h2.r0 (by omega), o h2.r1 (by omega), o h2.r2 (by omega), o h2.bl (by omega), o h2.br (by omega), o h2.bm (by omega), o h2.ba (by omega), ownsRow_setCell_below h2.ow (by show k + 7 < _; omega) u, by have := h2.sz; simp [World.setCell]; exact this, h2.bw.setCell (by show k ≤ k + 7; omega) u⟩
/-- A round returns: the three results are put. -/
theorem pi_fail {k : Nat} {w : World} {l : List Sg} {rd ms at_ : Int} {vb v : Value} {W : World} (hp : PJ k w l rd ms at_ vb v W) (a : Nat) :
    PX k w a (((W.setCell ⟨k, 0, none⟩ (.slice none 0 0)).setCell ⟨k + 1, 0, none⟩ (.int .i64 a)).setCell ⟨k + 2, 0, none⟩ (.int .i64 4)).drew ∧
    BF k W (((W.setCell ⟨k, 0, none⟩ (.slice none 0 0)).setCell ⟨k + 1, 0, none⟩ (.int .i64 a)).setCell ⟨k + 2, 0, none⟩ (.int .i64 4)).drew := by
  have e1 : Blk (W.setCell ⟨k, 0, none⟩ (.slice none 0 0)) (k + 1) 3 #[.int .i64 0] := hp.r1.other (by show k + 1 ≠ k; omega) _
  have e2 : Blk ((W.setCell ⟨k, 0, none⟩ (.slice none 0 0)).setCell ⟨k + 1, 0, none⟩ (.int .i64 a)) (k + 2) 24 #[.int .i64 0] :=
    (hp.r2.other (by show k + 2 ≠ k; omega) _).other (by show k + 2 ≠ k + 1; omega) _
  have hb : BF k W (((W.setCell ⟨k, 0, none⟩ (.slice none 0 0)).setCell ⟨k + 1, 0, none⟩ (.int .i64 a)).setCell ⟨k + 2, 0, none⟩ (.int .i64 4)).drew :=
    (((BF.put hp.r0 (by omega) _).trans (BF.put e1 (by omega) _)).trans (BF.put e2 (by omega) _)).trans (BF.drew k _)
  refine ⟨⟨?_, ?_, ?_, Nat.le_trans hp.sz hb.size, hb.below hp.bw (by have := hp.sz; omega)⟩, hb⟩
  · exact ((hp.r0.put 0 _).other (by show k ≠ k + 1; omega) _).other (by show k ≠ k + 2; omega) _
  · exact (e1.put 0 _).other (by show k + 1 ≠ k + 2; omega) _
  · exact e2.put 0 _
end Go.Proofs.YtgjbelcnkmcbiaaDoor
