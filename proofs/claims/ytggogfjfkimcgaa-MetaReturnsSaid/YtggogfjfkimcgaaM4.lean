/-
  Walk: a value set, in the program.
-/
import Derived.Test.YtggogfjfkimcgaaM3
import Derived.OwnWalk
namespace Go.Proofs.Ytggogfjfkimcgaa
open Go.RowKit

/-- The address of 'x[k:]'. -/
def cutAt (x : Option Addr) (c k size : Nat) : Option Addr := if c = k then x else x.map (·.add (k * size))
/-- 'x[k:]', its address under a name. -/
theorem wpList_slice_l {P : Program} {w : World} {ops : Array Oper} {rest : List Oper} {o : Oper} {a : Act} {Q : Exit → Act → World → Prop} (hg : o.guard = none) {sOp iOp : Operand} {t : TypeId}
    (ho : o.op = Op.slice t sOp (some iOp) none none) (ht : P.underlying t = some (.slice (P.elem t))) {size : Nat} (hsz : ∀ w : World, (sizeOf (P.elem t)).run P w = .ok size w)
    {x : Option Addr} {n c : Nat} (hs : a.eval sOp = .slice x n c) {k : Nat} (hi : a.eval iOp = .int .i64 (k : Int)) (hk : k ≤ n)
    (h : ∀ x2, Hid (x2 = cutAt x c k size) → wpList P ops Q rest (a.put o.dst (.slice x2 (n - k) (c - k))) w) : wpList P ops Q (o :: rest) a w := by
  refine wpList_plain hg fun K hK => ?_
  have hr := run_slice_l (P := P) (w := w) t x n c ht .i64 (k : Int) (by omega) (by omega)
  have hr2 := run_sliceAt_slice (P := P) (w := w) t (.slice x n c) (some (.int .i64 (k : Int))) none none ht
  rw [hr, hsz] at hr2
  simp only [Result.andThen, sliced, Int.toNat_natCast] at hr2
  unfold Oper.wp
  simp [execOp, ho, hs, hi, hr2, Result.andThen]
  exact hK _ _ (h _ rfl)

def mcell (m : Mt) : List Value := [.string ⟨m.1.toArray⟩, .string ⟨m.2.toArray⟩]
def mcells (l : List Mt) : List Value := l.flatMap mcell
theorem mcells_length (l : List Mt) : (mcells l).length = l.length * 2 := by
  induction l with
  | nil => rfl
  | cons t l ih => simp [mcells, mcell] at ih ⊢; omega
theorem mcells_append (a b : List Mt) : mcells (a ++ b) = mcells a ++ mcells b := by simp [mcells]
theorem mcells_one (l : List Mt) : ∀ u ∈ mcells l, u.oneCell' = true := by
  intro u hu
  simp only [mcells, mcell, List.mem_flatMap] at hu
  obtain ⟨m, _, hm⟩ := hu
  simp at hm
  rcases hm with rfl | rfl <;> rfl
theorem mcells_get (l : List Mt) (i : Nat) (h : i < l.length) : (mcells l)[i * 2]? = some (.string ⟨l[i].1.toArray⟩) ∧ (mcells l)[i * 2 + 1]? = some (.string ⟨l[i].2.toArray⟩) := by
  induction l generalizing i with
  | nil => simp at h
  | cons t l ih =>
    cases i with
    | zero => simp [mcells, mcell]
    | succ i =>
      have := ih i (by simpa using h)
      have e : mcells (t :: l) = mcell t ++ mcells l := rfl
      rw [e]
      have hl : (mcell t).length = 2 := rfl
      refine ⟨?_, ?_⟩ <;> rw [List.getElem?_append_right (by rw [hl]; omega), hl]
      · rw [show (i + 1) * 2 - 2 = i * 2 from by omega]; simpa using this.1
      · rw [show (i + 1) * 2 + 1 - 2 = i * 2 + 1 from by omega]; simpa using this.2
/-- The slice value v owns a row of metadata, from block base on. -/
def MOwn (w : World) (base : Nat) (v : Value) (l : List Mt) : Prop := w.ownsRow base 39 2 v l.length (mcells l)
theorem MOwn.row {w : World} {base : Nat} {v : Value} {l : List Mt} (h : MOwn w base v l) : MRow w v l := by
  rcases h.2 with ⟨rfl, h0⟩ | ⟨g, cap, cur, rfl, _, hg, hc, hm, _⟩
  · have : l = [] := List.eq_nil_of_length_eq_zero h0
    subst this
    exact mrow_nil w
  · refine ⟨_, cap, rfl, hc, hm, (fun h => by cases h), fun _ => ⟨g, 0, rfl, fun i hi => ?_⟩⟩
    have hgt := mcells_get l i hi
    have a1 := World.ownsRow.cells h (g := g) rfl _ _ hgt.1
    have a2 := World.ownsRow.cells h (g := g) rfl _ _ hgt.2
    rw [Addr.add_lit] at a1 a2
    exact ⟨a1, by simpa [Nat.add_assoc] using a2⟩
theorem mown_more {w : World} {base : Nat} {v : Value} {n : Nat} {l : List Mt} {xs : List Value} (h : w.ownsRow base 39 2 v n (mcells l ++ xs)) (new : List Mt) (hx : xs = mcells new) (hn : n = l.length + new.length) : MOwn w base v (l ++ new) := by
  subst hx; subst hn
  unfold MOwn
  rw [mcells_append, List.length_append]
  exact h
theorem el_meta : Elem Try.prog 22 39 (.agg #[.string ⟨#[]⟩, .string ⟨#[]⟩]) 2 32 := by
  refine ⟨Try.underlying22, ?_, rfl, by decide⟩
  exact info_parts (by kernel_rfl)
theorem size_meta (w : World) : (sizeOf (Try.prog.elem 22)).run Try.prog w = .ok 2 w := by kernel_rfl

/-- What is read from a row, as the new cells of an append. -/
theorem MRow.news {w : World} {x : Option Addr} {n c : Nat} {l : List Mt} (h : MRow w (.slice x n c) l) : ∀ ad, x = some ad → ∀ j u, (mcells l)[j]? = some u → w.cell? (ad.add j) = some u := by
  intro ad hx j u hu
  obtain ⟨x', c', hv, _, _, _, h4⟩ := h
  cases hv
  have hj : j < l.length * 2 := by
    have := (List.getElem?_eq_some_iff.1 hu).1
    rwa [mcells_length] at this
  have hne : l ≠ [] := by rintro rfl; simp at hj
  obtain ⟨b, off, hbo, hc⟩ := h4 hne
  rw [hbo] at hx
  cases hx
  rw [Addr.add_lit]
  have hi : j / 2 < l.length := by omega
  obtain ⟨c1, c2⟩ := hc (j / 2) hi
  have hg := mcells_get l (j / 2) hi
  by_cases h2 : j % 2 = 0
  · have e : j / 2 * 2 = j := by omega
    rw [e] at c1 hg
    rw [c1, ← hg.1, hu]
  · have e : j / 2 * 2 + 1 = j := by omega
    rw [Nat.add_assoc, e] at c2
    rw [e] at hg
    rw [c2, ← hg.2, hu]
/-- The rest of a row. -/
theorem MRow.from {w : World} {x x2 : Option Addr} {n c k : Nat} {l : List Mt} (h : MRow w (.slice x n c) l) (hk : k ≤ n) (hx : x2 = cutAt x c k 2) : MRow w (.slice x2 (n - k) (c - k)) (l.drop k) := by
  unfold cutAt at hx
  obtain ⟨x', c', hv, h1, h2, h3, h4⟩ := h
  cases hv
  have hl : (l.drop k).length = l.length - k := by simp
  refine ⟨x2, c - k, by rw [hl], by omega, by omega, fun h0 => ?_, fun hne => ?_⟩
  · rw [hx] at h0
    split at h0
    · omega
    · have : x = none := by cases x with | none => rfl | some a => cases h0
      have := h3 this
      omega
  · have hlt : k < l.length := by
      rcases Nat.lt_or_ge k l.length with h | h
      · exact h
      · exact absurd (List.drop_of_length_le h) hne
    obtain ⟨b, off, rfl, hc⟩ := h4 (by rintro rfl; simp at hlt)
    rw [if_neg (by omega)] at hx
    refine ⟨b, off + k * 2, by rw [hx]; simp [Addr.add_lit], fun i hi => ?_⟩
    have := hc (k + i) (by simp at hi; omega)
    simp only [MCell, List.getElem_drop] at this ⊢
    rw [show off + k * 2 + i * 2 = off + (k + i) * 2 from by omega]
    exact this

/-- What Set promises. -/
def setRes (l : List Mt) (k v : List UInt8) : List Mt := if setErr l k v = 0 then setL l k v else []
def SetOk (l : List Mt) (k v : List UInt8) (e : Ending) (w : World) : Prop := ∃ x, e = .returned (.tuple #[x, .int .i64 (setErr l k v)]) ∧ MRow w x (setRes l k v)
theorem setOk_err {l : List Mt} {k v : List UInt8} {w : World} {n : Nat} (h : setErr l k v = n) (hn : n ≠ 0) : SetOk l k v (.returned (.tuple #[.slice none 0 0, .int .i64 n])) w :=
  ⟨_, by rw [h], by unfold setRes; rw [if_neg (by omega)]; exact mrow_nil w⟩

theorem cntL_step (l : List Mt) (k : List UInt8) (i : Nat) (hi : i < l.length) (m : Mt) (hm : l[i] = m) (h : cntL l k = i + cntL (l.drop i) k) : (Op.bytesLess m.1 k = true → cntL l k = i + 1 + cntL (l.drop (i + 1)) k) ∧ (Op.bytesLess m.1 k = false → cntL l k = i) := by
  subst hm
  rw [List.drop_eq_getElem_cons hi] at h
  refine ⟨fun h0 => ?_, fun h0 => ?_⟩
  · rw [h, cntL, if_pos h0]; omega
  · rw [h, cntL, if_neg (by rw [h0]; decide)]; rfl

/-- 'x[:k]'. -/
theorem wpList_slice_h {P : Program} {w : World} {ops : Array Oper} {rest : List Oper} {o : Oper} {a : Act} {Q : Exit → Act → World → Prop} (hg : o.guard = none) {sOp iOp : Operand} {t : TypeId}
    (ho : o.op = Op.slice t sOp none (some iOp) none) (ht : P.underlying t = some (.slice (P.elem t))) {size : Nat} (hsz : ∀ w : World, (sizeOf (P.elem t)).run P w = .ok size w)
    {x : Option Addr} {n c : Nat} (hs : a.eval sOp = .slice x n c) {k : Nat} (hi : a.eval iOp = .int .i64 (k : Int)) (hk : k ≤ c)
    (h : wpList P ops Q rest (a.put o.dst (.slice x k c)) w) : wpList P ops Q (o :: rest) a w := by
  refine wpList_plain hg fun K hK => ?_
  have hr := run_slice_h (P := P) (w := w) t x n c ht .i64 (k : Int) (by omega) (by omega)
  have hr2 := run_sliceAt_slice (P := P) (w := w) t (.slice x n c) none (some (.int .i64 (k : Int))) none ht
  rw [hr, hsz] at hr2
  have e : (if c = 0 then x else x.map (·.add (0 * size))) = x := by
    split
    · rfl
    · cases x with
      | none => rfl
      | some a => simp [Addr.add]
  simp only [Result.andThen, sliced, Int.toNat_natCast, Nat.sub_zero, e] at hr2
  unfold Oper.wp
  simp [execOp, ho, hs, hi, hr2, Result.andThen]
  exact hK _ _ h
theorem und_meta : Try.prog.underlying 22 = some (.slice (Try.prog.elem 22)) := by kernel_rfl
/-- 'make([]T, 0, n)'. -/
theorem wpList_mk0 {P : Program} {w : World} {ops : Array Oper} {rest : List Oper} {o : Oper} {a : Act} {Q : Exit → Act → World → Prop} {t e : TypeId} {z : Value} {size bytes : Nat} (hE : Elem P t e z size bytes)
    (hg : o.guard = none) {l c : Operand} (hop : o.op = Op.makeSlice t l c) (base : Nat) {C : Int} {n : Nat} (hl : a.eval l = .int .i64 0) (hc : a.eval c = .int .i64 C) (hC : C = (n : Int)) (b2 : bytes * n ≤ 281474976710656) (b3 : n ≤ maxLen) (b4 : base ≤ w.heap.size)
    (hK : ∀ w', w'.ownsRow base e size (.slice (some ⟨w.heap.size, 0, none⟩) 0 n) 0 [] → w.grownBy w' none → wpList P ops Q rest (a.put o.dst (.slice (some ⟨w.heap.size, 0, none⟩) 0 n)) w') :
    wpList P ops Q (o :: rest) a w := by
  obtain ⟨ht, ⟨i, hi, hz, hsz, hby⟩, _, _⟩ := hE
  exact wpList_make_own w hg l c t hop base e i z size ht hi hz hsz .i64 .i64 C n hl hc hC (by rw [hby]; exact b2) b3 b4 hK
/-- 'append(out, x...)' within the capacity. -/
theorem wpList_fits {P : Program} {w : World} {ops : Array Oper} {rest : List Oper} {o : Oper} {a : Act} {Q : Exit → Act → World → Prop} {t e : TypeId} {z : Value} {size bytes : Nat} (hE : Elem P t e z size bytes)
    (hg : o.guard = none) {s x : Operand} (hop : o.op = Op.call { callee := Callee.builtin Builtin.append, args := #[s, x], argTypes := #[t, t] })
    {base g k cap : Nat} {xs : List Value} (hs : a.eval s = .slice (some ⟨g, 0, none⟩) k cap) (hown : w.ownsRow base e size (.slice (some ⟨g, 0, none⟩) k cap) k xs) {ao : Option Addr} {m c : Nat} (news : List Value) (hx : a.eval x = .slice ao m c) (hn : news.length = m * size)
    (hnone : ao = none → m = 0 ∧ c = 0) (hc : ∀ ad, ao = some ad → ∀ j u, news[j]? = some u → w.cell? (ad.add j) = some u) (h1c : ∀ u ∈ news, u.oneCell' = true) (b1 : k + m ≤ cap)
    (hK : ∀ w', w'.ownsRow base e size (.slice (some ⟨g, 0, none⟩) (k + m) cap) (k + m) (xs ++ news) → w.grownBy w' (some g) → wpList P ops Q rest (a.put o.dst (.slice (some ⟨g, 0, none⟩) (k + m) cap)) w') :
    wpList P ops Q (o :: rest) a w := by
  obtain ⟨ht, ⟨i, hi, hz, hsz, hby⟩, _, _⟩ := hE
  exact wpList_append_fits_any w hg s x t hop base e i size ht hi hsz g k cap xs hs hown ao m c news hx hn hnone hc h1c b1 hK
theorem mrow_of {w : World} {base : Nat} {v : Value} {n : Nat} {l : List Mt} (h : w.ownsRow base 39 2 v n (mcells l)) : MRow w v l := by
  have e : n = l.length := by have := h.1; rw [mcells_length] at this; omega
  subst e
  exact MOwn.row h
theorem MRow.none0 {w : World} {x : Option Addr} {n c : Nat} {l : List Mt} (h : MRow w (.slice x n c) l) : x = none → n = 0 ∧ c = 0 := by
  obtain ⟨x', c', hv, h1, _, h3, _⟩ := h
  cases hv
  intro h0
  have := h3 h0
  omega
theorem MRow.grown {w w' : World} {v : Value} {l : List Mt} {g : Nat} (h : MRow w v l) (hg : w.grownBy w' (some g)) (hB : ∀ b off k, l ≠ [] → v = .slice (some ⟨b, off, none⟩) l.length k → b ≠ g) : MRow w' v l := by
  obtain ⟨x, c, rfl, h1, h2, h3, h4⟩ := h
  refine ⟨x, c, rfl, h1, h2, h3, fun hne => ?_⟩
  obtain ⟨b, off, rfl, hc⟩ := h4 hne
  refine ⟨b, off, rfl, fun i hi => ?_⟩
  obtain ⟨c1, c2⟩ := hc i hi
  have hbg := hB b off c hne rfl
  exact ⟨hg.cell c1 (by simpa using hbg), hg.cell c2 (by simpa using hbg)⟩
/-- A row that lay before a world stands behind all that is made since. -/
theorem MRow.far {w1 w2 : World} {B : Nat} {v : Value} {l : List Mt} (h : MRow w1 v l) (hlt : w1.heap.size ≤ B) (h2 : Below B w1 w2) : MRow w2 v l := h.below (h2.mono hlt)

theorem MRow.take' {w : World} {x : Option Addr} {n c : Nat} {l : List Mt} (h : MRow w (.slice x n c) l) (i : Nat) (hi : i ≤ n) : MRow w (.slice x i c) (l.take i) := by
  have hn : n = l.length := by obtain ⟨_, _, hv, _⟩ := h; cases hv; rfl
  subst hn
  by_cases hne : l = []
  · subst hne
    have : i = 0 := by simpa using hi
    subst this
    simpa using h
  · exact h.take i hi hne
theorem getP_cnt (l : List Mt) (k : List UInt8) (h : Asc l) (hg : (getP l k).isSome = true) : cntL l k < l.length := by
  induction l with
  | nil => simp [getP] at hg
  | cons m r ih =>
    unfold cntL
    split
    · rename_i hl
      have hk : (m.1 == k) = false := by
        rw [beq_eq_false_iff_ne]; rintro e; rw [e, less_irrefl] at hl; cases hl
      have : getP (m :: r) k = getP r k := by simp [getP, hk]
      rw [this] at hg
      have := ih h.2.2.2 hg
      simp; omega
    · simp

set_option maxRecDepth 100000 in
set_option maxHeartbeats 16000000 in
theorem set_any (v : Value) (l : List Mt) (k val : List UInt8) (w : World) (hr : MRow w v l) :
    Calls Try.prog 13 #[v, .string ⟨k.toArray⟩, .string ⟨val.toArray⟩] w fun e w' => SetOk l k val e w' ∧ Below w.heap.size w w' := by
  have HE : Hid (setErr l k val = if chkP l ≠ 0 then chkP l else if isK k = false then 13 else if val = [] ∧ getP l k = none then 9 else if val ≠ [] ∧ isV val = false then 4 else if val ≠ [] ∧ getP l k = none ∧ l.length = 16 then 3 else 0) := rfl
  have hck := fun w h => check_any v l w h
  have hcz := chkP_zero l
  have HCZ := Lib.hid hcz
  clear hcz
  obtain ⟨x, c, rfl, hc1, hc2, hc3, hcell⟩ := id hr
  unfold maxLen at hc2
  generalize chkP l = ch at *
  have HCK := Lib.hid hck
  clear hck
  go_enter Try.func13, Try.ntmps13
  go_wp2_with fail
  refine (HCK.out _ hr).mono ?_
  rintro e w1 ⟨rfl, hb1⟩
  by_cases hch : ch = 0
  · subst hch
    have HOK := Lib.hid (HCZ.out.1 rfl)
    clear HCZ
    go_wp2_with fail
    refine (isKey_any _ _).mono ?_
    rintro e w2 ⟨rfl, rfl⟩
    have e1 : (ByteArray.mk k.toArray).data.toList = k := rfl
    rw [e1]
    clear e1
    cases hk : isK k with
    | false =>
      rw [hk] at HE
      have HE2 : Hid (setErr l k val = 13) := by show _ = _; rw [HE.out]; simp
      clear HE hk
      go_wp2_with fail
      go_ret2
      exact ⟨setOk_err HE2.out (by decide), hb1⟩
    | true =>
      rw [hk] at HE
      clear hk
      go_wp2_with fail
      refine (get_any _ l k _ (hr.below hb1)).mono ?_
      rintro e w2 ⟨rfl, hb2⟩
      have hb3 := bthen hb1 hb2
      have hcell2 : Hid (l ≠ [] → ∃ b off, x = some ⟨b, off, none⟩ ∧ ∀ i (h : i < l.length), MCell w2 b off i l[i]) := by
        obtain ⟨x', c', hv, -, -, -, h⟩ := hr.below hb3
        cases hv
        exact h
      clear hb1 hb2 hcell HCK hc3
      by_cases hvv : val = []
      · subst hvv
        cases hg : getP l k with
        | none =>
          have HE2 : Hid (setErr l k [] = 9) := by show _ = _; rw [HE.out, hg]; simp
          clear HE hg
          simp only [optV]
          go_wp2_with fail
          go_ret2
          exact ⟨setOk_err HE2.out (by decide), hb3⟩
        | some old =>
          have HE0 : Hid (setErr l k [] = 0) := by show _ = _; rw [HE.out, hg]; simp
          have HG := Lib.hid hg
          clear HE hg
          simp only [optV]
          have hle := cntL_le l k
          obtain ⟨hp1, hp2⟩ := asc_parts l k HOK.out.2
          have hl16 := HOK.out.1
          rw [HG.out] at hp2
          have HSL : Hid (setRes l k [] = l.take (cntL l k) ++ (List.drop 1 (List.drop (cntL l k) l))) := by
            show _ = _
            unfold setRes setL
            rw [if_pos HE0.out, hp1, ← hp2]
            simp []
          clear hp1 hp2
          have HF : Hid (cntL l k < l.length) := by exact getP_cnt l k HOK.out.2 (by rw [HG.out]; rfl)
          obtain ⟨N, hN⟩ : ∃ N, l.length = N := ⟨_, rfl⟩
          rw [hN] at hle hl16 hc1 HF ⊢
          have hr2 := hr.below hb3
          rw [hN] at hr2
          have HN := Lib.hid hN
          clear hr HG
          clear hN
          go_wp2_with fail
          go_loop [11] (fun vi => ∃ i : Nat, vi = .int .i64 i ∧ i ≤ N ∧ Hid (cntL l k = i + cntL (l.drop i) k)) (fun vi => N - (intOf vi).toNat)
          case atStart => exact ⟨0, rfl, Nat.zero_le _, by show _ = _; simp⟩
          case round =>
            obtain ⟨i, rfl, hi, hci⟩ := hrel
            by_cases hlt : i < N
            · have hd : decide ((i : Int) < (N : Int)) = true := by simp; omega
              have hlt' : i < l.length := by have := HN.out; omega
              obtain ⟨mk, mv, hm⟩ : ∃ mk mv, l[i] = (mk, mv) := ⟨_, _, rfl⟩
              obtain ⟨hs1, hs2⟩ := cntL_step l k i hlt' _ hm hci.out
              obtain ⟨b, off, hbo, hcl⟩ := hcell2.out (by rintro rfl; simp at hlt')
              obtain ⟨q1, -⟩ := hcl i hlt'
              rw [hm] at q1
              simp only at q1 hs1 hs2
              clear hm hcl
              cases hb : Op.bytesLess mk k with
              | true =>
                have HS := Lib.hid (hs1 hb)
                clear hs1 hs2
                subst hbo
                go_wp2_with fail
                go_round
                case rel => exact ⟨i + 1, by go_num, by omega, HS⟩
                case measure => simp [intOf]; omega
              | false =>
                have HC := Lib.hid (hs2 hb)
                have HSR : Hid (setRes l k [] = l.take i ++ (List.drop 1 (List.drop i l))) := by show _ = _; rw [HSL.out, HC.out]
                have HTL : Hid ((l.take i).length = i) := by show _ = _; rw [List.length_take, HN.out]; omega
                rw [HC.out] at HF
                clear hs1 hs2 HC HSL hci
                subst hbo
                go_wp2_with (refine wpList_slice_l (o := ⟨some 72, _, _, _, _, _⟩) rfl rfl und_meta size_meta rfl rfl hi ?_)
                intro x2 hx2
                have hrr := hr2.from hi hx2.out
                have hone : 1 ≤ N - i := by have := HF.out; omega
                go_wp2_with (refine wpList_slice_l (o := ⟨some 75, _, _, _, _, _⟩) rfl rfl und_meta size_meta rfl (k := 1) rfl hone ?_)
                intro x3 hx3
                have hrr := hrr.from hone hx3.out
                clear hx3
                clear hx2
                go_wp2_with (refine wpList_mk0 el_meta (o := ⟨some 79, _, _, _, _, _⟩) rfl rfl w2.heap.size (n := N + 1) rfl rfl (by omega) (by omega) (by unfold maxLen; omega) (Nat.le_refl _) ?_)
                intro w3 ho3 hg3
                have hb23 : Below w2.heap.size w2 w3 := (Below.refl _ _).grown hg3 (Nat.le_refl _) (fun k h => by cases h)
                have hr3 := hr2.below hb23
                have hrr3 := hrr.below hb23
                have ht3 := hr3.take' i hi
                go_wp2_with (first | refine wpList_slice_h (o := ⟨some 83, _, _, _, _, _⟩) rfl rfl und_meta size_meta rfl rfl (by omega) ?_ | refine wpList_fits el_meta (o := ⟨some 84, _, _, _, _, _⟩) rfl rfl rfl ho3 (mcells (l.take i)) rfl (by rw [mcells_length, HTL.out]) ht3.none0 ht3.news (mcells_one _) (by omega) ?_)
                intro w4 ho4 hg4
                have hb24 : Below w2.heap.size w2 w4 := hb23.grown hg4 hb23.size (fun k h => by cases h; exact Nat.le_refl _)
                have hrr4 := hrr.below hb24
                try simp only [List.nil_append, Nat.zero_add] at ho4
                clear ho3 hg3 hb23 hr3 hrr3 ht3 hg4
                go_wp2_with (refine wpList_fits el_meta (o := ⟨some 95, _, _, _, _, _⟩) rfl rfl rfl ho4 (mcells (List.drop 1 (List.drop i l))) rfl (by rw [mcells_length]; simp [HN.out]; try omega) hrr4.none0 hrr4.news (mcells_one _) (by omega) ?_)
                intro w6 ho6 hg6
                have hb26 : Below w2.heap.size w2 w6 := hb24.grown hg6 hb24.size (fun k h => by cases h; exact Nat.le_refl _)
                clear hg6 hb24 hrr4 ho4
                go_wp2_with fail
                go_ret2
                refine ⟨⟨_, by rw [HE0.out]; rfl, ?_⟩, bthen hb3 hb26⟩
                rw [HSR.out]
                rw [← mcells_append] at ho6
                have el : l.take i ++ (List.drop 1 (List.drop i l)) = l.take i ++ (List.drop (i + 1) l) := by simp
                rw [el]
                exact mrow_of ho6

            · have hd : decide ((i : Int) < (N : Int)) = false := by simp; omega
              have HC : Hid (cntL l k = i) := by have := hci.out; rw [List.drop_of_length_le (by rw [HN.out]; omega)] at this; exact this
              have HSR : Hid (setRes l k [] = l.take i ++ (List.drop 1 (List.drop i l))) := by show _ = _; rw [HSL.out, HC.out]
              have HTL : Hid ((l.take i).length = i) := by show _ = _; rw [List.length_take, HN.out]; omega
              rw [HC.out] at HF
              clear HC HSL hci
              exact absurd HF.out hlt

      · have HV0 := Lib.hid hvv
        have hv0 : val.isEmpty = false := by simpa using hvv
        clear hvv
        have hiv := fun w => isValue_any ⟨val.toArray⟩ w
        have e1 : (ByteArray.mk val.toArray).data.toList = val := rfl
        rw [e1] at hiv
        clear e1
        cases hv : isV val with
        | false =>
          rw [hv] at HE hiv
          have HIV := Lib.hid hiv
          have HE2 : Hid (setErr l k val = 4) := by show _ = _; rw [HE.out]; simp [HV0.out]
          clear HE hv hiv
          cases hg : getP l k with
          | none =>
            clear hg
            simp only [optV]
            go_wp2_with fail
            refine (HIV.out _).mono ?_
            rintro e w3 ⟨rfl, rfl⟩
            go_wp2_with fail
            go_ret2
            exact ⟨setOk_err HE2.out (by decide), hb3⟩
          | some old =>
            clear hg
            simp only [optV]
            go_wp2_with fail
            refine (HIV.out _).mono ?_
            rintro e w3 ⟨rfl, rfl⟩
            go_wp2_with fail
            go_ret2
            exact ⟨setOk_err HE2.out (by decide), hb3⟩
        | true =>
          rw [hv] at HE hiv
          have HIV := Lib.hid hiv
          clear hv hiv
          cases hg : getP l k with
          | none =>
            by_cases h16 : l.length = 16
            · have HE2 : Hid (setErr l k val = 3) := by show _ = _; rw [HE.out, hg]; simp [HV0.out, h16]
              have d16 : ((l.length : Int) == 16) = true := by simp; omega
              clear HE hg h16
              simp only [optV]
              go_wp2_with fail
              refine (HIV.out _).mono ?_
              rintro e w3 ⟨rfl, rfl⟩
              go_wp2_with fail
              go_ret2
              exact ⟨setOk_err HE2.out (by decide), hb3⟩
            · have HE0 : Hid (setErr l k val = 0) := by show _ = _; rw [HE.out, hg]; simp [h16, HV0.out]
              have d16 : ((l.length : Int) == 16) = false := by simp; omega
              have HG := Lib.hid hg
              clear HE hg
              simp only [optV]
              go_wp2_with fail
              refine (HIV.out _).mono ?_
              rintro e w3 ⟨rfl, rfl⟩
              have hle := cntL_le l k
              obtain ⟨hp1, hp2⟩ := asc_parts l k HOK.out.2
              have hl16 := HOK.out.1
              rw [HG.out] at hp2
              have HSL : Hid (setRes l k val = l.take (cntL l k) ++ [(k, val)] ++ (List.drop (cntL l k) l)) := by
                show _ = _
                unfold setRes setL
                rw [if_pos HE0.out, hp1, ← hp2]
                simp [HV0.out]
              clear hp1 hp2
              have HF : Hid (True) := trivial
              obtain ⟨N, hN⟩ : ∃ N, l.length = N := ⟨_, rfl⟩
              rw [hN] at hle hl16 hc1 d16 ⊢
              have hr2 := hr.below hb3
              rw [hN] at hr2
              have HN := Lib.hid hN
              clear hr HG
              clear hN
              go_wp2_with fail
              go_loop [11] (fun vi => ∃ i : Nat, vi = .int .i64 i ∧ i ≤ N ∧ Hid (cntL l k = i + cntL (l.drop i) k)) (fun vi => N - (intOf vi).toNat)
              case atStart => exact ⟨0, rfl, Nat.zero_le _, by show _ = _; simp⟩
              case round =>
                obtain ⟨i, rfl, hi, hci⟩ := hrel
                by_cases hlt : i < N
                · have hd : decide ((i : Int) < (N : Int)) = true := by simp; omega
                  have hlt' : i < l.length := by have := HN.out; omega
                  obtain ⟨mk, mv, hm⟩ : ∃ mk mv, l[i] = (mk, mv) := ⟨_, _, rfl⟩
                  obtain ⟨hs1, hs2⟩ := cntL_step l k i hlt' _ hm hci.out
                  obtain ⟨b, off, hbo, hcl⟩ := hcell2.out (by rintro rfl; simp at hlt')
                  obtain ⟨q1, -⟩ := hcl i hlt'
                  rw [hm] at q1
                  simp only at q1 hs1 hs2
                  clear hm hcl
                  cases hb : Op.bytesLess mk k with
                  | true =>
                    have HS := Lib.hid (hs1 hb)
                    clear hs1 hs2
                    subst hbo
                    go_wp2_with fail
                    go_round
                    case rel => exact ⟨i + 1, by go_num, by omega, HS⟩
                    case measure => simp [intOf]; omega
                  | false =>
                    have HC := Lib.hid (hs2 hb)
                    have HSR : Hid (setRes l k val = l.take i ++ [(k, val)] ++ (List.drop i l)) := by show _ = _; rw [HSL.out, HC.out]
                    have HTL : Hid ((l.take i).length = i) := by show _ = _; rw [List.length_take, HN.out]; omega
                    skip
                    clear hs1 hs2 HC HSL hci
                    subst hbo
                    go_wp2_with (refine wpList_slice_l (o := ⟨some 72, _, _, _, _, _⟩) rfl rfl und_meta size_meta rfl rfl hi ?_)
                    intro x2 hx2
                    have hrr := hr2.from hi hx2.out
                    skip
                    clear hx2
                    go_wp2_with (refine wpList_mk0 el_meta (o := ⟨some 79, _, _, _, _, _⟩) rfl rfl w2.heap.size (n := N + 1) rfl rfl (by omega) (by omega) (by unfold maxLen; omega) (Nat.le_refl _) ?_)
                    intro w3 ho3 hg3
                    have hb23 : Below w2.heap.size w2 w3 := (Below.refl _ _).grown hg3 (Nat.le_refl _) (fun k h => by cases h)
                    have hr3 := hr2.below hb23
                    have hrr3 := hrr.below hb23
                    have ht3 := hr3.take' i hi
                    go_wp2_with (first | refine wpList_slice_h (o := ⟨some 83, _, _, _, _, _⟩) rfl rfl und_meta size_meta rfl rfl (by omega) ?_ | refine wpList_fits el_meta (o := ⟨some 84, _, _, _, _, _⟩) rfl rfl rfl ho3 (mcells (l.take i)) rfl (by rw [mcells_length, HTL.out]) ht3.none0 ht3.news (mcells_one _) (by omega) ?_)
                    intro w4 ho4 hg4
                    have hb24 : Below w2.heap.size w2 w4 := hb23.grown hg4 hb23.size (fun k h => by cases h; exact Nat.le_refl _)
                    have hrr4 := hrr.below hb24
                    try simp only [List.nil_append, Nat.zero_add] at ho4
                    clear ho3 hg3 hb23 hr3 hrr3 ht3 hg4
                    go_wp2_with (refine wpList_fits el_meta (o := ⟨some 92, _, _, _, _, _⟩) rfl rfl rfl (ho4.alloc _) (mcells [(k, val)]) (ao := some ⟨w4.heap.size, 0, none⟩) (m := 1) (c := 1) rfl rfl (fun h => by cases h) ?c1 (mcells_one _) (by omega) ?_)
                    case c1 =>
                      intro ad had
                      cases had
                      exact World.news_of_block (Blk.new w4 39 #[.string ⟨k.toArray⟩, .string ⟨val.toArray⟩])
                    intro w5 ho5 hg5
                    have hb25 : Below w2.heap.size w2 w5 := (hb24.alloc hb24.size _).grown hg5 (Nat.le_trans hb24.size (by simp)) (fun k h => by cases h; exact Nat.le_refl _)
                    have hrr5 := hrr.below hb25
                    clear ho4 hg5 hrr4 hb24
                    go_wp2_with (refine wpList_fits el_meta (o := ⟨some 95, _, _, _, _, _⟩) rfl rfl rfl ho5 (mcells (List.drop i l)) rfl (by rw [mcells_length]; simp [HN.out]; try omega) hrr5.none0 hrr5.news (mcells_one _) (by omega) ?_)
                    intro w6 ho6 hg6
                    have hb26 : Below w2.heap.size w2 w6 := hb25.grown hg6 hb25.size (fun k h => by cases h; exact Nat.le_refl _)
                    clear hg6 hb25 hrr5 ho5
                    go_wp2_with fail
                    go_ret2
                    refine ⟨⟨_, by rw [HE0.out]; rfl, ?_⟩, bthen hb3 hb26⟩
                    rw [HSR.out]
                    rw [← mcells_append, ← mcells_append] at ho6
                    have el : l.take i ++ [(k, val)] ++ (List.drop i l) = l.take i ++ ([(k, val)] ++ (List.drop i l)) := by simp
                    rw [el]
                    exact mrow_of ho6

                · have hd : decide ((i : Int) < (N : Int)) = false := by simp; omega
                  have HC : Hid (cntL l k = i) := by have := hci.out; rw [List.drop_of_length_le (by rw [HN.out]; omega)] at this; exact this
                  have HSR : Hid (setRes l k val = l.take i ++ [(k, val)] ++ (List.drop i l)) := by show _ = _; rw [HSL.out, HC.out]
                  have HTL : Hid ((l.take i).length = i) := by show _ = _; rw [List.length_take, HN.out]; omega
                  skip
                  clear HC HSL hci
                  go_wp2_with (refine wpList_slice_l (o := ⟨some 72, _, _, _, _, _⟩) rfl rfl und_meta size_meta rfl rfl hi ?_)
                  intro x2 hx2
                  have hrr := hr2.from hi hx2.out
                  skip
                  clear hx2
                  go_wp2_with (refine wpList_mk0 el_meta (o := ⟨some 79, _, _, _, _, _⟩) rfl rfl w2.heap.size (n := N + 1) rfl rfl (by omega) (by omega) (by unfold maxLen; omega) (Nat.le_refl _) ?_)
                  intro w3 ho3 hg3
                  have hb23 : Below w2.heap.size w2 w3 := (Below.refl _ _).grown hg3 (Nat.le_refl _) (fun k h => by cases h)
                  have hr3 := hr2.below hb23
                  have hrr3 := hrr.below hb23
                  have ht3 := hr3.take' i hi
                  go_wp2_with (first | refine wpList_slice_h (o := ⟨some 83, _, _, _, _, _⟩) rfl rfl und_meta size_meta rfl rfl (by omega) ?_ | refine wpList_fits el_meta (o := ⟨some 84, _, _, _, _, _⟩) rfl rfl rfl ho3 (mcells (l.take i)) rfl (by rw [mcells_length, HTL.out]) ht3.none0 ht3.news (mcells_one _) (by omega) ?_)
                  intro w4 ho4 hg4
                  have hb24 : Below w2.heap.size w2 w4 := hb23.grown hg4 hb23.size (fun k h => by cases h; exact Nat.le_refl _)
                  have hrr4 := hrr.below hb24
                  try simp only [List.nil_append, Nat.zero_add] at ho4
                  clear ho3 hg3 hb23 hr3 hrr3 ht3 hg4
                  go_wp2_with (refine wpList_fits el_meta (o := ⟨some 92, _, _, _, _, _⟩) rfl rfl rfl (ho4.alloc _) (mcells [(k, val)]) (ao := some ⟨w4.heap.size, 0, none⟩) (m := 1) (c := 1) rfl rfl (fun h => by cases h) ?c1 (mcells_one _) (by omega) ?_)
                  case c1 =>
                    intro ad had
                    cases had
                    exact World.news_of_block (Blk.new w4 39 #[.string ⟨k.toArray⟩, .string ⟨val.toArray⟩])
                  intro w5 ho5 hg5
                  have hb25 : Below w2.heap.size w2 w5 := (hb24.alloc hb24.size _).grown hg5 (Nat.le_trans hb24.size (by simp)) (fun k h => by cases h; exact Nat.le_refl _)
                  have hrr5 := hrr.below hb25
                  clear ho4 hg5 hrr4 hb24
                  go_wp2_with (refine wpList_fits el_meta (o := ⟨some 95, _, _, _, _, _⟩) rfl rfl rfl ho5 (mcells (List.drop i l)) rfl (by rw [mcells_length]; simp [HN.out]; try omega) hrr5.none0 hrr5.news (mcells_one _) (by omega) ?_)
                  intro w6 ho6 hg6
                  have hb26 : Below w2.heap.size w2 w6 := hb25.grown hg6 hb25.size (fun k h => by cases h; exact Nat.le_refl _)
                  clear hg6 hb25 hrr5 ho5
                  go_wp2_with fail
                  go_ret2
                  refine ⟨⟨_, by rw [HE0.out]; rfl, ?_⟩, bthen hb3 hb26⟩
                  rw [HSR.out]
                  rw [← mcells_append, ← mcells_append] at ho6
                  have el : l.take i ++ [(k, val)] ++ (List.drop i l) = l.take i ++ ([(k, val)] ++ (List.drop i l)) := by simp
                  rw [el]
                  exact mrow_of ho6


          | some old =>
            have HE0 : Hid (setErr l k val = 0) := by show _ = _; rw [HE.out, hg]; simp
            have HG := Lib.hid hg
            clear HE hg
            simp only [optV]
            go_wp2_with fail
            refine (HIV.out _).mono ?_
            rintro e w3 ⟨rfl, rfl⟩
            have hle := cntL_le l k
            obtain ⟨hp1, hp2⟩ := asc_parts l k HOK.out.2
            have hl16 := HOK.out.1
            rw [HG.out] at hp2
            have HSL : Hid (setRes l k val = l.take (cntL l k) ++ [(k, val)] ++ (List.drop 1 (List.drop (cntL l k) l))) := by
              show _ = _
              unfold setRes setL
              rw [if_pos HE0.out, hp1, ← hp2]
              simp [HV0.out]
            clear hp1 hp2
            have HF : Hid (cntL l k < l.length) := by exact getP_cnt l k HOK.out.2 (by rw [HG.out]; rfl)
            obtain ⟨N, hN⟩ : ∃ N, l.length = N := ⟨_, rfl⟩
            rw [hN] at hle hl16 hc1 HF ⊢
            have hr2 := hr.below hb3
            rw [hN] at hr2
            have HN := Lib.hid hN
            clear hr HG
            clear hN
            go_wp2_with fail
            go_loop [11] (fun vi => ∃ i : Nat, vi = .int .i64 i ∧ i ≤ N ∧ Hid (cntL l k = i + cntL (l.drop i) k)) (fun vi => N - (intOf vi).toNat)
            case atStart => exact ⟨0, rfl, Nat.zero_le _, by show _ = _; simp⟩
            case round =>
              obtain ⟨i, rfl, hi, hci⟩ := hrel
              by_cases hlt : i < N
              · have hd : decide ((i : Int) < (N : Int)) = true := by simp; omega
                have hlt' : i < l.length := by have := HN.out; omega
                obtain ⟨mk, mv, hm⟩ : ∃ mk mv, l[i] = (mk, mv) := ⟨_, _, rfl⟩
                obtain ⟨hs1, hs2⟩ := cntL_step l k i hlt' _ hm hci.out
                obtain ⟨b, off, hbo, hcl⟩ := hcell2.out (by rintro rfl; simp at hlt')
                obtain ⟨q1, -⟩ := hcl i hlt'
                rw [hm] at q1
                simp only at q1 hs1 hs2
                clear hm hcl
                cases hb : Op.bytesLess mk k with
                | true =>
                  have HS := Lib.hid (hs1 hb)
                  clear hs1 hs2
                  subst hbo
                  go_wp2_with fail
                  go_round
                  case rel => exact ⟨i + 1, by go_num, by omega, HS⟩
                  case measure => simp [intOf]; omega
                | false =>
                  have HC := Lib.hid (hs2 hb)
                  have HSR : Hid (setRes l k val = l.take i ++ [(k, val)] ++ (List.drop 1 (List.drop i l))) := by show _ = _; rw [HSL.out, HC.out]
                  have HTL : Hid ((l.take i).length = i) := by show _ = _; rw [List.length_take, HN.out]; omega
                  rw [HC.out] at HF
                  clear hs1 hs2 HC HSL hci
                  subst hbo
                  go_wp2_with (refine wpList_slice_l (o := ⟨some 72, _, _, _, _, _⟩) rfl rfl und_meta size_meta rfl rfl hi ?_)
                  intro x2 hx2
                  have hrr := hr2.from hi hx2.out
                  have hone : 1 ≤ N - i := by have := HF.out; omega
                  go_wp2_with (refine wpList_slice_l (o := ⟨some 75, _, _, _, _, _⟩) rfl rfl und_meta size_meta rfl (k := 1) rfl hone ?_)
                  intro x3 hx3
                  have hrr := hrr.from hone hx3.out
                  clear hx3
                  clear hx2
                  go_wp2_with (refine wpList_mk0 el_meta (o := ⟨some 79, _, _, _, _, _⟩) rfl rfl w2.heap.size (n := N + 1) rfl rfl (by omega) (by omega) (by unfold maxLen; omega) (Nat.le_refl _) ?_)
                  intro w3 ho3 hg3
                  have hb23 : Below w2.heap.size w2 w3 := (Below.refl _ _).grown hg3 (Nat.le_refl _) (fun k h => by cases h)
                  have hr3 := hr2.below hb23
                  have hrr3 := hrr.below hb23
                  have ht3 := hr3.take' i hi
                  go_wp2_with (first | refine wpList_slice_h (o := ⟨some 83, _, _, _, _, _⟩) rfl rfl und_meta size_meta rfl rfl (by omega) ?_ | refine wpList_fits el_meta (o := ⟨some 84, _, _, _, _, _⟩) rfl rfl rfl ho3 (mcells (l.take i)) rfl (by rw [mcells_length, HTL.out]) ht3.none0 ht3.news (mcells_one _) (by omega) ?_)
                  intro w4 ho4 hg4
                  have hb24 : Below w2.heap.size w2 w4 := hb23.grown hg4 hb23.size (fun k h => by cases h; exact Nat.le_refl _)
                  have hrr4 := hrr.below hb24
                  try simp only [List.nil_append, Nat.zero_add] at ho4
                  clear ho3 hg3 hb23 hr3 hrr3 ht3 hg4
                  go_wp2_with (refine wpList_fits el_meta (o := ⟨some 92, _, _, _, _, _⟩) rfl rfl rfl (ho4.alloc _) (mcells [(k, val)]) (ao := some ⟨w4.heap.size, 0, none⟩) (m := 1) (c := 1) rfl rfl (fun h => by cases h) ?c1 (mcells_one _) (by omega) ?_)
                  case c1 =>
                    intro ad had
                    cases had
                    exact World.news_of_block (Blk.new w4 39 #[.string ⟨k.toArray⟩, .string ⟨val.toArray⟩])
                  intro w5 ho5 hg5
                  have hb25 : Below w2.heap.size w2 w5 := (hb24.alloc hb24.size _).grown hg5 (Nat.le_trans hb24.size (by simp)) (fun k h => by cases h; exact Nat.le_refl _)
                  have hrr5 := hrr.below hb25
                  clear ho4 hg5 hrr4 hb24
                  go_wp2_with (refine wpList_fits el_meta (o := ⟨some 95, _, _, _, _, _⟩) rfl rfl rfl ho5 (mcells (List.drop 1 (List.drop i l))) rfl (by rw [mcells_length]; simp [HN.out]; try omega) hrr5.none0 hrr5.news (mcells_one _) (by omega) ?_)
                  intro w6 ho6 hg6
                  have hb26 : Below w2.heap.size w2 w6 := hb25.grown hg6 hb25.size (fun k h => by cases h; exact Nat.le_refl _)
                  clear hg6 hb25 hrr5 ho5
                  go_wp2_with fail
                  go_ret2
                  refine ⟨⟨_, by rw [HE0.out]; rfl, ?_⟩, bthen hb3 hb26⟩
                  rw [HSR.out]
                  rw [← mcells_append, ← mcells_append] at ho6
                  have el : l.take i ++ [(k, val)] ++ (List.drop 1 (List.drop i l)) = l.take i ++ ([(k, val)] ++ (List.drop (i + 1) l)) := by simp
                  rw [el]
                  exact mrow_of ho6

              · have hd : decide ((i : Int) < (N : Int)) = false := by simp; omega
                have HC : Hid (cntL l k = i) := by have := hci.out; rw [List.drop_of_length_le (by rw [HN.out]; omega)] at this; exact this
                have HSR : Hid (setRes l k val = l.take i ++ [(k, val)] ++ (List.drop 1 (List.drop i l))) := by show _ = _; rw [HSL.out, HC.out]
                have HTL : Hid ((l.take i).length = i) := by show _ = _; rw [List.length_take, HN.out]; omega
                rw [HC.out] at HF
                clear HC HSL hci
                exact absurd HF.out hlt

  · have HE2 : Hid (setErr l k val = ch) := by show _ = _; rw [HE.out, if_pos hch]
    have hne0 : ((ch : Int) != 0) = true := by simp; omega
    go_wp2_with fail
    go_ret2
    exact ⟨setOk_err HE2.out hch, hb1⟩
end Go.Proofs.Ytggogfjfkimcgaa
