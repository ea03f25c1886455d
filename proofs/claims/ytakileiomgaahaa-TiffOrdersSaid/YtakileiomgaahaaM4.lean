/-
  Walk: a value set, in the program.
-/
import Derived.Test.YtakileiomgaahaaM3
import Derived.OwnWalk
namespace Go.Proofs.Ytakileiomgaahaa
open Go.RowKit

/-- The address of 'x[k:]'. -/
def cutAt (x : Option Addr) (c k size : Nat) : Option Addr := if c = k then x else x.map (·.add (k * size))
/-- 'x[k:]', its address under a name. -/
theorem wpList_slice_l {P : Program} {w : World} {ops : Array Oper} {rest : List Oper} {o : Oper} {a : Act} {Q : Exit → Act → World → Prop} (hg : o.guard = none) {sOp iOp : Operand} {t : TypeId}
    (ho : o.op = Op.slice t sOp (some iOp) none none) (ht : P.underlying t = some (.slice (P.elem t))) {size : Nat} (hsz : ∀ w : World, (sizeOf (P.elem t)).run P w = .ok size w)
    {x : Option Addr} {n c : Nat} (hs : a.eval sOp = .slice x n c) {k : Nat} (hi : a.eval iOp = .int .i64 (k : Int)) (hk : k ≤ n)
    (h : ∀ x2, Hid (x2 = cutAt x c k size) → wpList P ops Q rest (a.put o.dst (.slice x2 (n - k) (c - k))) w) : wpList P ops Q (o :: rest) a w := by
  refine wpList_plain hg fun K hK => ?_
  have hr := run_slice_l (P := P) (w := w) t x n c ht .i64 (k : Int) (by omega) (by omega)
  have hr2 := run_sliceAt_slice (P := P) (w := w) t (.slice x n c) (some (.int .i64 (k : Int))) none none ht
  rw [hr, hsz] at hr2
  simp only [Result.andThen, sliced, Int.toNat_natCast] at hr2
  unfold Oper.wp
  simp [execOp, ho, hs, hi, hr2, Result.andThen]
  exact hK _ _ (h _ rfl)

def mcell (m : Mt) : List Value := [.string ⟨m.1.toArray⟩, .string ⟨m.2.toArray⟩]
def mcells (l : List Mt) : List Value := l.flatMap mcell
theorem mcells_length (l : List Mt) : (mcells l).length = l.length * 2 := by
  induction l with
  | nil => rfl
  | cons t l ih => simp [mcells, mcell] at ih ⊢; omega
theorem mcells_append (a b : List Mt) : mcells (a ++ b) = mcells a ++ mcells b := by simp [mcells]
theorem mcells_one (l : List Mt) : ∀ u ∈ mcells l, u.oneCell' = true := by
  intro u hu
  simp only [mcells, mcell, List.mem_flatMap] at hu
  obtain ⟨m, _, hm⟩ := hu
  simp at hm
  rcases hm with rfl | rfl <;> rfl
theorem mcells_get (l : List Mt) (i : Nat) (h : i < l.length) : (mcells l)[i * 2]? = some (.string ⟨l[i].1.toArray⟩) ∧ (mcells l)[i * 2 + 1]? = some (.string ⟨l[i].2.toArray⟩) := by
  induction l generalizing i with
  | nil => simp at h
  | cons t l ih =>
    cases i with
    | zero => simp [mcells, mcell]
    | succ i =>
      have := ih i (by simpa using h)
      have e : mcells (t :: l) = mcell t ++ mcells l := rfl
      rw [e]
      have hl : (mcell t).length = 2 := rfl
      refine ⟨?_, ?_⟩ <;> rw [List.getElem?_append_right (by rw [hl]; omega), hl]
      · rw [show (i + 1) * 2 - 2 = i * 2 from by omega]; simpa using this.1
      · rw [show (i + 1) * 2 + 1 - 2 = i * 2 + 1 from by omega]; simpa using this.2
/-- The slice value v owns a row of metadata, from block base on. -/
def MOwn (w : World) (base : Nat) (v : Value) (l : List Mt) : Prop := w.ownsRow base 67 2 v l.length (mcells l)
theorem MOwn.row {w : World} {base : Nat} {v : Value} {l : List Mt} (h : MOwn w base v l) : MRow w v l := by
  rcases h.2 with ⟨rfl, h0⟩ | ⟨g, cap, cur, rfl, _, hg, hc, hm, _⟩
  · have : l = [] := List.eq_nil_of_length_eq_zero h0
    subst this
    exact mrow_nil w
  · refine ⟨_, cap, rfl, hc, hm, (fun h => by cases h), fun _ => ⟨g, 0, rfl, fun i hi => ?_⟩⟩
    have hgt := mcells_get l i hi
    have a1 := World.ownsRow.cells h (g := g) rfl _ _ hgt.1
    have a2 := World.ownsRow.cells h (g := g) rfl _ _ hgt.2
    rw [Addr.add_lit] at a1 a2
    exact ⟨a1, by simpa [Nat.add_assoc] using a2⟩
theorem mown_more {w : World} {base : Nat} {v : Value} {n : Nat} {l : List Mt} {xs : List Value} (h : w.ownsRow base 67 2 v n (mcells l ++ xs)) (new : List Mt) (hx : xs = mcells new) (hn : n = l.length + new.length) : MOwn w base v (l ++ new) := by
  subst hx; subst hn
  unfold MOwn
  rw [mcells_append, List.length_append]
  exact h
theorem el_meta : Elem Try.prog 35 67 (.agg #[.string ⟨#[]⟩, .string ⟨#[]⟩]) 2 32 := by
  refine ⟨Try.underlying35, ?_, rfl, by decide⟩
  exact info_parts (by kernel_rfl)
theorem size_meta (w : World) : (sizeOf (Try.prog.elem 35)).run Try.prog w = .ok 2 w := by kernel_rfl

/-- What is read from a row, as the new cells of an append. -/
theorem MRow.news {w : World} {x : Option Addr} {n c : Nat} {l : List Mt} (h : MRow w (.slice x n c) l) : ∀ ad, x = some ad → ∀ j u, (mcells l)[j]? = some u → w.cell? (ad.add j) = some u := by
  intro ad hx j u hu
  obtain ⟨x', c', hv, _, _, _, h4⟩ := h
  cases hv
  have hj : j < l.length * 2 := by
    have := (List.getElem?_eq_some_iff.1 hu).1
    rwa [mcells_length] at this
  have hne : l ≠ [] := by rintro rfl; simp at hj
  obtain ⟨b, off, hbo, hc⟩ := h4 hne
  rw [hbo] at hx
  cases hx
  rw [Addr.add_lit]
  have hi : j / 2 < l.length := by omega
  obtain ⟨c1, c2⟩ := hc (j / 2) hi
  have hg := mcells_get l (j / 2) hi
  by_cases h2 : j % 2 = 0
  · have e : j / 2 * 2 = j := by omega
    rw [e] at c1 hg
    rw [c1, ← hg.1, hu]
  · have e : j / 2 * 2 + 1 = j := by omega
    rw [Nat.add_assoc, e] at c2
    rw [e] at hg
    rw [c2, ← hg.2, hu]
/-- The rest of a row. -/
theorem MRow.from {w : World} {x x2 : Option Addr} {n c k : Nat} {l : List Mt} (h : MRow w (.slice x n c) l) (hk : k ≤ n) (hx : x2 = cutAt x c k 2) : MRow w (.slice x2 (n - k) (c - k)) (l.drop k) := by
  unfold cutAt at hx
  obtain ⟨x', c', hv, h1, h2, h3, h4⟩ := h
  cases hv
  have hl : (l.drop k).length = l.length - k := by simp
  refine ⟨x2, c - k, by rw [hl], by omega, by omega, fun h0 => ?_, fun hne => ?_⟩
  · rw [hx] at h0
    split at h0
    · omega
    · have : x = none := by cases x with | none => rfl | some a => cases h0
      have := h3 this
      omega
  · have hlt : k < l.length := by
      rcases Nat.lt_or_ge k l.length with h | h
      · exact h
      · exact absurd (List.drop_of_length_le h) hne
    obtain ⟨b, off, rfl, hc⟩ := h4 (by rintro rfl; simp at hlt)
    rw [if_neg (by omega)] at hx
    refine ⟨b, off + k * 2, by rw [hx]; simp [Addr.add_lit], fun i hi => ?_⟩
    have := hc (k + i) (by simp at hi; omega)
    simp only [MCell, List.getElem_drop] at this ⊢
    rw [show off + k * 2 + i * 2 = off + (k + i) * 2 from by omega]
    exact this

/-- What Set promises. -/
def setRes (l : List Mt) (k v : List UInt8) : List Mt := if setErr l k v = 0 then setL l k v else []
def SetOk (l : List Mt) (k v : List UInt8) (e : Ending) (w : World) : Prop := ∃ x, e = .returned (.tuple #[x, .int .i64 (setErr l k v)]) ∧ MRow w x (setRes l k v)
theorem setOk_err {l : List Mt} {k v : List UInt8} {w : World} {n : Nat} (h : setErr l k v = n) (hn : n ≠ 0) : SetOk l k v (.returned (.tuple #[.slice none 0 0, .int .i64 n])) w :=
  ⟨_, by rw [h], by unfold setRes; rw [if_neg (by omega)]; exact mrow_nil w⟩

theorem cntL_step (l : List Mt) (k : List UInt8) (i : Nat) (hi : i < l.length) (m : Mt) (hm : l[i] = m) (h : cntL l k = i + cntL (l.drop i) k) : (Op.bytesLess m.1 k = true → cntL l k = i + 1 + cntL (l.drop (i + 1)) k) ∧ (Op.bytesLess m.1 k = false → cntL l k = i) := by
  subst hm
  rw [List.drop_eq_getElem_cons hi] at h
  refine ⟨fun h0 => ?_, fun h0 => ?_⟩
  · rw [h, cntL, if_pos h0]; omega
  · rw [h, cntL, if_neg (by rw [h0]; decide)]; rfl

/-- 'x[:k]'. -/
theorem wpList_slice_h {P : Program} {w : World} {ops : Array Oper} {rest : List Oper} {o : Oper} {a : Act} {Q : Exit → Act → World → Prop} (hg : o.guard = none) {sOp iOp : Operand} {t : TypeId}
    (ho : o.op = Op.slice t sOp none (some iOp) none) (ht : P.underlying t = some (.slice (P.elem t))) {size : Nat} (hsz : ∀ w : World, (sizeOf (P.elem t)).run P w = .ok size w)
    {x : Option Addr} {n c : Nat} (hs : a.eval sOp = .slice x n c) {k : Nat} (hi : a.eval iOp = .int .i64 (k : Int)) (hk : k ≤ c)
    (h : wpList P ops Q rest (a.put o.dst (.slice x k c)) w) : wpList P ops Q (o :: rest) a w := by
  refine wpList_plain hg fun K hK => ?_
  have hr := run_slice_h (P := P) (w := w) t x n c ht .i64 (k : Int) (by omega) (by omega)
  have hr2 := run_sliceAt_slice (P := P) (w := w) t (.slice x n c) none (some (.int .i64 (k : Int))) none ht
  rw [hr, hsz] at hr2
  have e : (if c = 0 then x else x.map (·.add (0 * size))) = x := by
    split
    · rfl
    · cases x with
      | none => rfl
      | some a => simp [Addr.add]
  simp only [Result.andThen, sliced, Int.toNat_natCast, Nat.sub_zero, e] at hr2
  unfold Oper.wp
  simp [execOp, ho, hs, hi, hr2, Result.andThen]
  exact hK _ _ h
theorem und_meta : Try.prog.underlying 35 = some (.slice (Try.prog.elem 35)) := by kernel_rfl
/-- 'make([]T, 0, n)'. -/
theorem wpList_mk0 {P : Program} {w : World} {ops : Array Oper} {rest : List Oper} {o : Oper} {a : Act} {Q : Exit → Act → World → Prop} {t e : TypeId} {z : Value} {size bytes : Nat} (hE : Elem P t e z size bytes)
    (hg : o.guard = none) {l c : Operand} (hop : o.op = Op.makeSlice t l c) (base : Nat) {C : Int} {n : Nat} (hl : a.eval l = .int .i64 0) (hc : a.eval c = .int .i64 C) (hC : C = (n : Int)) (b2 : bytes * n ≤ 281474976710656) (b3 : n ≤ maxLen) (b4 : base ≤ w.heap.size)
    (hK : ∀ w', w'.ownsRow base e size (.slice (some ⟨w.heap.size, 0, none⟩) 0 n) 0 [] → w.grownBy w' none → wpList P ops Q rest (a.put o.dst (.slice (some ⟨w.heap.size, 0, none⟩) 0 n)) w') :
    wpList P ops Q (o :: rest) a w := by
  obtain ⟨ht, ⟨i, hi, hz, hsz, hby⟩, _, _⟩ := hE
  exact wpList_make_own w hg l c t hop base e i z size ht hi hz hsz .i64 .i64 C n hl hc hC (by rw [hby]; exact b2) b3 b4 hK
/-- 'append(out, x...)' within the capacity. -/
theorem wpList_fits {P : Program} {w : World} {ops : Array Oper} {rest : List Oper} {o : Oper} {a : Act} {Q : Exit → Act → World → Prop} {t e : TypeId} {z : Value} {size bytes : Nat} (hE : Elem P t e z size bytes)
    (hg : o.guard = none) {s x : Operand} (hop : o.op = Op.call { callee := Callee.builtin Builtin.append, args := #[s, x], argTypes := #[t, t] })
    {base g k cap : Nat} {xs : List Value} (hs : a.eval s = .slice (some ⟨g, 0, none⟩) k cap) (hown : w.ownsRow base e size (.slice (some ⟨g, 0, none⟩) k cap) k xs) {ao : Option Addr} {m c : Nat} (news : List Value) (hx : a.eval x = .slice ao m c) (hn : news.length = m * size)
    (hnone : ao = none → m = 0 ∧ c = 0) (hc : ∀ ad, ao = some ad → ∀ j u, news[j]? = some u → w.cell? (ad.add j) = some u) (h1c : ∀ u ∈ news, u.oneCell' = true) (b1 : k + m ≤ cap)
    (hK : ∀ w', w'.ownsRow base e size (.slice (some ⟨g, 0, none⟩) (k + m) cap) (k + m) (xs ++ news) → w.grownBy w' (some g) → wpList P ops Q rest (a.put o.dst (.slice (some ⟨g, 0, none⟩) (k + m) cap)) w') :
    wpList P ops Q (o :: rest) a w := by
  obtain ⟨ht, ⟨i, hi, hz, hsz, hby⟩, _, _⟩ := hE
  exact wpList_append_fits_any w hg s x t hop base e i size ht hi hsz g k cap xs hs hown ao m c news hx hn hnone hc h1c b1 hK
theorem mrow_of {w : World} {base : Nat} {v : Value} {n : Nat} {l : List Mt} (h : w.ownsRow base 67 2 v n (mcells l)) : MRow w v l := by
  have e : n = l.length := by have := h.1; rw [mcells_length] at this; omega
  subst e
  exact MOwn.row h
theorem MRow.none0 {w : World} {x : Option Addr} {n c : Nat} {l : List Mt} (h : MRow w (.slice x n c) l) : x = none → n = 0 ∧ c = 0 := by
  obtain ⟨x', c', hv, h1, _, h3, _⟩ := h
  cases hv
  intro h0
  have := h3 h0
  omega
theorem MRow.grown {w w' : World} {v : Value} {l : List Mt} {g : Nat} (h : MRow w v l) (hg : w.grownBy w' (some g)) (hB : ∀ b off k, l ≠ [] → v = .slice (some ⟨b, off, none⟩) l.length k → b ≠ g) : MRow w' v l := by
  obtain ⟨x, c, rfl, h1, h2, h3, h4⟩ := h
  refine ⟨x, c, rfl, h1, h2, h3, fun hne => ?_⟩
  obtain ⟨b, off, rfl, hc⟩ := h4 hne
  refine ⟨b, off, rfl, fun i hi => ?_⟩
  obtain ⟨c1, c2⟩ := hc i hi
  have hbg := hB b off c hne rfl
  exact ⟨hg.cell c1 (by simpa using hbg), hg.cell c2 (by simpa using hbg)⟩
/-- A row that lay before a world stands behind all that is made since. -/
theorem MRow.far {w1 w2 : World} {B : Nat} {v : Value} {l : List Mt} (h : MRow w1 v l) (hlt : w1.heap.size ≤ B) (h2 : Below B w1 w2) : MRow w2 v l := h.below (h2.mono hlt)

theorem MRow.take' {w : World} {x : Option Addr} {n c : Nat} {l : List Mt} (h : MRow w (.slice x n c) l) (i : Nat) (hi : i ≤ n) : MRow w (.slice x i c) (l.take i) := by
  have hn : n = l.length := by obtain ⟨_, _, hv, _⟩ := h; cases hv; rfl
  subst hn
  by_cases hne : l = []
  · subst hne
    have : i = 0 := by simpa using hi
    subst this
    simpa using h
  · exact h.take i hi hne
theorem getP_cnt (l : List Mt) (k : List UInt8) (h : Asc l) (hg : (getP l k).isSome = true) : cntL l k < l.length := by
  induction l with
  | nil => simp [getP] at hg
  | cons m r ih =>
    unfold cntL
    split
    · rename_i hl
      have hk : (m.1 == k) = false := by
        rw [beq_eq_false_iff_ne]; rintro e; rw [e, less_irrefl] at hl; cases hl
      have : getP (m :: r) k = getP r k := by simp [getP, hk]
      rw [this] at hg
      have := ih h.2.2.2 hg
      simp; omega
    · simp

end Go.Proofs.Ytakileiomgaahaa
