/-
  A region that draws its order, whose operations only read old memory and whose callees may make memory of their own: walked once (the kit's theorem on quiet regions, at the class of the worlds that keep what lay below a block).
-/
import Derived.Test.YtgjbelcnkmcbiaaDoorLib
import Derived.BigQuiet
import Derived.Lib.LaidTab
import Derived.Test.YtgjbelcnkmcbiaaDoorProg
namespace Go.Proofs.YtgjbelcnkmcbiaaDoor
open Go.RowKit

/-- A world that keeps what lay below block B of w0. -/
structure BW (B : Nat) (w0 : World) where
  w : World
  b : Below B w0 w
instance BW.some (B : Nat) (w0 : World) : Nonempty (BW B w0) := ⟨⟨w0, Below.refl B w0⟩⟩
theorem wp_region_bw {P : Program} (B : Nat) (w0 : World) {id : Nat} {Q : Exit → Act → World → Prop} {a : Act} {l : List Oper} {w : World} (hb : Below B w0 w) (hm : P.follows .mixedOrders = true) (hB : Region.lexB .any l.toArray = true)
    (h : wpQuiet P l.toArray (fun w' => ∃ u : BW B w0, w' = u.w) (fun a' => ∀ w', (∃ u : BW B w0, w' = u.w) → Q .normal a' w') l a) : (Code.region id l.toArray true).wp P Q a w :=
  wp_region_quiet (C := fun w' => ∃ u : BW B w0, w' = u.w) hm hB ⟨⟨_, hb.drew⟩, rfl⟩ (by simpa using h)
theorem calls_bw {P : Program} {f : FuncId} {args : Array Value} {B : Nat} {w0 : World} (hB : B ≤ w0.heap.size) {u : BW B w0} {v : Value}
    (h : Calls P f args u.w fun e w' => e = .returned v ∧ Below u.w.heap.size u.w w') : Calls P f args u.w fun e w'' => e = .returned v ∧ ∃ u' : BW B w0, w'' = u'.w :=
  h.mono fun _ w' ⟨he, hb⟩ => ⟨he, ⟨⟨w', u.b.trans (hb.mono (Nat.le_trans hB u.b.size))⟩, rfl⟩⟩
theorem calls_bw_same {P : Program} {f : FuncId} {args : Array Value} {B : Nat} {w0 : World} {u : BW B w0} {v : Value}
    (h : Calls P f args u.w fun e w' => e = .returned v ∧ u.w = w') : Calls P f args u.w fun e w'' => e = .returned v ∧ ∃ u' : BW B w0, w'' = u'.w :=
  h.mono fun _ _ ⟨he, hb⟩ => ⟨he, u, hb.symm⟩
theorem calls_bw_drew {P : Program} {f : FuncId} {args : Array Value} {B : Nat} {w0 : World} {u : BW B w0} {v : Value}
    (h : Calls P f args u.w fun e w' => e = .returned v ∧ ∃ n, w' = u.w.drewN n) : Calls P f args u.w fun e w'' => e = .returned v ∧ ∃ u' : BW B w0, w'' = u'.w :=
  h.mono fun _ _ ⟨he, n, hb⟩ => ⟨he, ⟨_, below_drewN u.b n⟩, hb⟩
/-- A call within a region that draws its order. -/
theorem step_call {P : Program} {w : World} {ops : Array Oper} {o : Oper} {a : Act} {K : Act → World → Prop} {Q : Exit → Act → World → Prop} {E : Prop} (hgd : o.guard = none) {f : FuncId} {args : Array Operand} {ts : Array TypeId}
    (ho : o.op = .call { callee := .value (.func f), args := args, argTypes := ts }) {vs : Array Value} (hargs : args.map a.eval = vs) (hrun : (callFunc f vs).run P w = .ok (.enter f vs) w) {R : Value → World → Prop} (hc : Calls P f vs w fun e w' => ∃ v, e = .returned v ∧ R v w')
    (h : ∀ v w', R v w' → K (a.put o.dst v) w') : if Region.wanted o (yielded ops a.tmps) = true then Oper.wp P o a w K Q else E := by
  have hw : Region.wanted o (yielded ops a.tmps) = true := by simp [Region.wanted, hgd]
  rw [if_pos hw]
  unfold Oper.wp
  simp [go_sem, execOp, ho, hargs]
  rw [hrun]
  refine hc.mono ?_
  rintro e w' ⟨v, rfl, hr⟩
  exact h v w' hr
/-- 'append(out, s...)', s a string, within a region that draws its order. -/
theorem step_app_str {P : Program} {w : World} {ops : Array Oper} {o : Oper} {a : Act} {K : Act → World → Prop} {Q : Exit → Act → World → Prop} {E : Prop} {sl x : Operand} {t u e : TypeId}
    (hE : Elem P t e (.int .u8 0) 1 1) (hu : P.underlying u = some .string) {base : Nat} {v : Value} {l : List UInt8} (hown : BRow w base e v l) (hbase : base ≤ w.heap.size)
    (hgd : o.guard = none) (ho : o.op = .call { callee := .builtin .append, args := #[sl, x], argTypes := #[t, u] }) (hs : a.eval sl = v) {s : ByteArray} (hx : a.eval x = .string s) (hlen : l.length + s.size ≤ 140737488355328)
    (h : ∀ v' w', BRow w' base e v' (l ++ s.data.toList) → w.grownBy w' v.ownBlock → K (a.put o.dst v') w') : if Region.wanted o (yielded ops a.tmps) = true then Oper.wp P o a w K Q else E := by
  have hw : Region.wanted o (yielded ops a.tmps) = true := by simp [Region.wanted, hgd]
  rw [if_pos hw]
  obtain ⟨ht, ⟨i, hi, hz, hsz, hby⟩, _, _⟩ := hE
  obtain ⟨v', w', hr, h2, h3, h4⟩ := Lib.run_append_own_string (P := P) w base t u o.type e i ht hu hi hz hsz hby v l.length (bcells l) hown s (by unfold maxLen; omega) hlen hbase
  unfold Oper.wp execOp
  simp only [ho, resolve, invoke, builtin, Sem.run_bind, Sem.run_pure, Result.andThen_ok, List.map_toArray, List.map_cons, List.map_nil, hs, hx, hr]
  refine h v' w' ?_ h3
  unfold BRow
  rw [bcells_append, List.length_append]
  exact h2
theorem tab_below {P : Program} {w w' : World} {n : String} {k : IntKind} {zs : List Int} (h : Lib.TabIs P w n k zs) (hb : Below w.heap.size w w') : Lib.TabIs P w' n k zs := by
  unfold Lib.TabIs World.var? at *
  cases hg : P.globalNamed n with
  | none => rw [hg] at h; cases h
  | some g =>
    rw [hg] at h
    simp only [Option.bind_some] at h ⊢
    have hlt : g < w.heap.size := by
      rcases Nat.lt_or_ge g w.heap.size with hl | hl
      · exact hl
      · rw [Array.getElem?_eq_none hl] at h; cases h
    rw [hb.block g hlt]
    exact h
theorem itoa_run (v : Value) (w : World) : (callFunc 45 #[v]).run Tryd.prog w = .ok (.enter 45 #[v]) w := by kernel_rfl
end Go.Proofs.YtgjbelcnkmcbiaaDoor
