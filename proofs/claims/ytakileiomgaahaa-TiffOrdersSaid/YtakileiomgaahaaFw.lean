/-
  Plain laws: a string appended to a row of bytes that is full (the row of a constant, which bears the run-time's mark).
-/
import Derived.Test.YtakileiomgaahaaBw
import Derived.Test.YtakileiomgaahaaE3
namespace Go.Proofs.Ytakileiomgaahaa
open Go.RowKit

/-- The slice value v reads as the bytes l, and its row is full. -/
def Full (w : World) (v : Value) (l : List UInt8) : Prop := ∃ g, v = .slice (some ⟨g, 0, none⟩) l.length l.length ∧ ∀ j (h : j < l.length), w.cell? ⟨g, j, none⟩ = some (.int .u8 (l[j].toNat : Int))
theorem run_app_full {P : Program} {w : World} {base : Nat} {t u ty e : TypeId} (hE : Elem P t e (.int .u8 0) 1 1) (hu : P.underlying u = some .string) {v : Value} {l : List UInt8} (hf : Full w v l) {s : ByteArray} (hs : 1 ≤ s.size) (hlen : l.length + s.size ≤ 140737488355328) (hbase : base ≤ w.heap.size) :
    ∃ v' w', (Builtin.append_ #[t, u] ty #[v, .string s]).run P w = .ok v' w' ∧ BRow w' base e v' (l ++ s.data.toList) ∧ w.grownBy w' none := by
  obtain ⟨g, rfl, hc⟩ := hf
  obtain ⟨ht, ⟨i, hi, hz, hsz, hby⟩, _, _⟩ := hE
  have hr := Lib.run_append_grow_string (P := P) (w := w) t u ty e i (.int .u8 0) ht hu hi hz ⟨g, 0, none⟩ l.length l.length (bcells l) (by rw [hsz, bcells_length]; omega)
    (fun j v hj => by
      have hjl : j < l.length := by have := (List.getElem?_eq_some_iff.1 hj).1; rwa [bcells_length] at this
      rw [bcells_get l j hjl] at hj
      cases hj
      rw [Addr.add_lit]
      simpa using hc j hjl) s (by omega) (by omega) (by rw [hby]; exact growslice_fits (by omega) (by omega))
  refine ⟨_, _, hr, ?_, ⟨rfl, rfl, rfl, by simp, fun k hk _ => Below.heap_alloc w.drew _ k hk⟩⟩
  have hge := grownCap_ge w (l.length + s.size) l.length e
  have hcm : grownCap w (l.length + s.size) l.length e ≤ maxLen := grownCap_le_maxLen w (l.length + s.size) l.length e (by unfold maxLen; omega)
  have hsc : Lib.strCells s = bcells s.data.toList := rfl
  unfold BRow
  rw [List.length_append, ba_size]
  refine ⟨by rw [bcells_length, List.length_append, ba_size]; omega, .inr ⟨w.heap.size, _, _, rfl, hbase, heap_alloc_new w.drew _, hge, hcm, ?_, ?_⟩⟩
  · have hz1 : (Value.int IntKind.u8 0).cells.size = 1 := rfl
    simp only [Array.size_append, List.size_toArray, size_zeroCells, hz1, bcells_length, Lib.strCells_length]
    omega
  · simp only [Array.toList_append, List.append_assoc]
    rw [← List.append_assoc, hsc, ← bcells_append]
    have hll : (l.length + s.size) * 1 = (bcells (l ++ s.data.toList)).length := by rw [bcells_length, List.length_append, ba_size]; omega
    rw [hll]
    exact List.take_left
/-- A row of bytes that is the call's own, or full. -/
def ORow2 (w : World) (base : Nat) (e : TypeId) (v : Value) (l : List UInt8) : Prop := BRow w base e v l ∨ Full w v l
theorem Full.shape {w : World} {v : Value} {l : List UInt8} (h : Full w v l) : ∃ x c, v = .slice x l.length c := by
  obtain ⟨g, rfl, -⟩ := h; exact ⟨_, _, rfl⟩
theorem Full.below {w w' : World} {v : Value} {l : List UInt8} (h : Full w v l) (hb : Below w.heap.size w w') : Full w' v l := by
  obtain ⟨g, rfl, hc⟩ := h
  refine ⟨g, rfl, fun j hj => ?_⟩
  have := hc j hj
  exact (hb.cell (p := ⟨g, j, none⟩) (World.block_lt_of_cell? w _ this)).trans this
theorem ORow2.alloc {w : World} {base : Nat} {e : TypeId} {v : Value} {l : List UInt8} (h : ORow2 w base e v l) (o : Obj) : ORow2 (w.alloc o) base e v l := by
  rcases h with h | h
  · exact .inl (World.ownsRow.alloc h o)
  · exact .inr (h.below ((Below.refl _ _).alloc (Nat.le_refl _) o))
theorem ORow2.shape {w : World} {base : Nat} {e : TypeId} {v : Value} {l : List UInt8} (h : ORow2 w base e v l) : ∃ x c, v = .slice x l.length c := by
  rcases h with h | h
  · rcases h.2 with ⟨rfl, h0⟩ | ⟨g, cap, cur, rfl, _⟩
    · exact ⟨none, 0, by rw [h0]⟩
    · exact ⟨_, _, rfl⟩
  · exact h.shape
theorem run_app2 {P : Program} {w : World} {base : Nat} {t u ty e : TypeId} (hE : Elem P t e (.int .u8 0) 1 1) (hu : P.underlying u = some .string) {v : Value} {l : List UInt8} (hf : ORow2 w base e v l) {s : ByteArray} (hs : 1 ≤ s.size) (hlen : l.length + s.size ≤ 140737488355328) (hbase : base ≤ w.heap.size) :
    ∃ v' w', (Builtin.append_ #[t, u] ty #[v, .string s]).run P w = .ok v' w' ∧ BRow w' base e v' (l ++ s.data.toList) ∧ Below base w w' := by
  rcases hf with hf | hf
  · obtain ⟨ht, ⟨i, hi, hz, hsz, hby⟩, _, _⟩ := hE
    obtain ⟨v', w', hr, h2, h3, h4⟩ := Lib.run_append_own_string (P := P) w base t u ty e i ht hu hi hz hsz hby v l.length (bcells l) hf s (by unfold maxLen; omega) hlen hbase
    refine ⟨v', w', hr, ?_, (Below.refl base w).grown h3 hbase (fun k hk => (World.ownsRow.lt hf k hk).1)⟩
    unfold BRow
    rw [bcells_append, List.length_append]
    exact h2
  · obtain ⟨v', w', hr, h2, h3⟩ := run_app_full (ty := ty) hE hu hf hs hlen hbase
    exact ⟨v', w', hr, h2, (Below.refl base w).grown h3 hbase (fun k hk => by cases hk)⟩
theorem wpList_app2 {P : Program} {w : World} {ops : Array Oper} {rest : List Oper} {o : Oper} {a : Act} {Q : Exit → Act → World → Prop} {sl x : Operand} {t u e : TypeId}
    (hE : Elem P t e (.int .u8 0) 1 1) (hu : P.underlying u = some .string) {base : Nat} {v : Value} {l : List UInt8} (hown : ORow2 w base e v l) (hbase : base ≤ w.heap.size)
    (hgd : o.guard = none) (ho : o.op = .call { callee := .builtin .append, args := #[sl, x], argTypes := #[t, u] }) (hs : a.eval sl = v) {s : ByteArray} (hx : a.eval x = .string s) (h1 : 1 ≤ s.size) (hlen : l.length + s.size ≤ 140737488355328)
    (h : ∀ v' w', BRow w' base e v' (l ++ s.data.toList) → Below base w w' → wpList P ops Q rest (a.put o.dst v') w') : wpList P ops Q (o :: rest) a w := by
  refine wpList_plain hgd fun K hK => ?_
  obtain ⟨v', w', hr, h2, h3⟩ := run_app2 (ty := o.type) hE hu hown h1 hlen hbase
  unfold Oper.wp execOp
  simp only [ho, resolve, invoke, builtin, Sem.run_bind, Sem.run_pure, Result.andThen_ok, List.map_toArray, List.map_cons, List.map_nil, hs, hx, hr]
  exact hK _ _ (h v' w' h2 h3)
theorem step_app2 {P : Program} {w : World} {ops : Array Oper} {o : Oper} {a : Act} {K : Act → World → Prop} {Q : Exit → Act → World → Prop} {E : Prop} {sl x : Operand} {t u e : TypeId}
    (hE : Elem P t e (.int .u8 0) 1 1) (hu : P.underlying u = some .string) {base : Nat} {v : Value} {l : List UInt8} (hown : ORow2 w base e v l) (hbase : base ≤ w.heap.size)
    (hgd : o.guard = none) (ho : o.op = .call { callee := .builtin .append, args := #[sl, x], argTypes := #[t, u] }) (hs : a.eval sl = v) {s : ByteArray} (hx : a.eval x = .string s) (h1 : 1 ≤ s.size) (hlen : l.length + s.size ≤ 140737488355328)
    (h : ∀ v' w', BRow w' base e v' (l ++ s.data.toList) → Below base w w' → K (a.put o.dst v') w') : if Region.wanted o (yielded ops a.tmps) = true then Oper.wp P o a w K Q else E := by
  have hw : Region.wanted o (yielded ops a.tmps) = true := by simp [Region.wanted, hgd]
  rw [if_pos hw]
  obtain ⟨v', w', hr, h2, h3⟩ := run_app2 (ty := o.type) hE hu hown h1 hlen hbase
  unfold Oper.wp execOp
  simp only [ho, resolve, invoke, builtin, Sem.run_bind, Sem.run_pure, Result.andThen_ok, List.map_toArray, List.map_cons, List.map_nil, hs, hx, hr]
  exact h v' w' h2 h3
end Go.Proofs.Ytakileiomgaahaa
