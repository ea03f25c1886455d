/-
  Appends onto long rows: growslice's own test, not half of it.
-/
import Derived.Test.YtakileiomgaahaaLib
import Derived.Deep.DeepAppendWide
namespace Go.Proofs.Ytakileiomgaahaa
open Go.RowKit

section
variable {P : Program} {w0 : World}
theorem wpList_appW {ops : Array Oper} {rest : List Oper} {o : Oper} {a : Act} {Q : Exit → Act → World → Prop} {s x : Operand} {t e : TypeId} {z : Value} {size bytes : Nat}
    (hE : Elem P t e z size bytes) {base : Nat} {v : Value} {n : Nat} {xs : List Value} (hown : w0.ownsRow base e size v n xs) (hbase : base ≤ w0.heap.size)
    (hgd : o.guard = none) (ho : o.op = .call { callee := .builtin .append, args := #[s, x], argTypes := #[t, t] }) (hs : a.eval s = v)
    {cs : Array Value} {m : Nat} (hm : cs.size = (m + 1) * size) (h1 : ∀ u ∈ cs.toList, u.oneCell' = true) (hx : a.eval x = .slice (some ⟨w0.heap.size, 0, none⟩) (m + 1) (m + 1))
    (hlen : ((n + (m + 1)) + (n + (m + 1)) / 4 + 192) * bytes ≤ 281474976710656) (h63 : n + (m + 1) ≤ maxLen)
    (h : ∀ r cap w', w'.ownsRow base e size (.slice (some ⟨r, 0, none⟩) (n + (m + 1)) cap) (n + (m + 1)) (xs ++ cs.toList) → (w0.alloc (.cells cs e)).grownBy w' v.ownBlock →
      wpList P ops Q rest (a.put o.dst (.slice (some ⟨r, 0, none⟩) (n + (m + 1)) cap)) w') : wpList P ops Q (o :: rest) a (w0.alloc (.cells cs e)) := by
  obtain ⟨ht, ⟨i, hi, hz, hsz, hby⟩, hzs, hp⟩ := hE
  refine wpList_append_own_wide _ hgd s x t ho base e i z size bytes ht hi hz hsz hby hzs hp v n xs hs (hown.alloc _) ⟨w0.heap.size, 0, none⟩ (m + 1) (m + 1) cs.toList hx (by simpa using hm) (World.news_of_block (Blk.new w0 e cs)) h1 h63 hlen (by simp; omega) ?_
  intro v' w' h2 h3 _
  rcases h2.2 with ⟨_, h0⟩ | ⟨g, cap, cur, hv, _⟩
  · omega
  · subst hv
    exact h g cap w' h2 h3
/-- 'append(out, s...)', s a string, onto a long row of the call's own. -/
theorem run_app_strW {w : World} {t u ty e : TypeId} (hE : Elem P t e (.int .u8 0) 1 1) (hu : P.underlying u = some .string) {base : Nat} {v : Value} {l : List UInt8} (hown : BRow w base e v l) (hbase : base ≤ w.heap.size)
    {s : ByteArray} (hlen : (l.length + s.size) + (l.length + s.size) / 4 + 192 ≤ 281474976710656) (hs : s.size ≤ 140737488355328) :
    ∃ v' w', (Builtin.append_ #[t, u] ty #[v, .string s]).run P w = .ok v' w' ∧ BRow w' base e v' (l ++ s.data.toList) ∧ w.grownBy w' v.ownBlock := by
  obtain ⟨ht, ⟨i, hi, hz, hsz, hby⟩, hzs, hp⟩ := hE
  by_cases hsmall : l.length + s.size ≤ 140737488355328
  · obtain ⟨v', w', h1, h2, h3, _⟩ := Lib.run_append_own_string (P := P) w base t u ty e i ht hu hi hz hsz hby v l.length (bcells l) hown s (by unfold maxLen; omega) hsmall hbase
    refine ⟨v', w', h1, ?_, h3⟩
    unfold BRow
    rw [bcells_append, List.length_append]
    exact h2
  · have hsc : Lib.strCells s = bcells s.data.toList := rfl
    have hsl : s.data.toList.length = s.size := by simp
    rcases hown.2 with ⟨_, h0⟩ | ⟨g, cap, cur, rfl, hbg, hg, hnc, hcm, hcs, htake⟩
    · omega
    · have hlen2 : (bcells (l ++ s.data.toList)).length = (l ++ s.data.toList).length * 1 := by rw [bcells_length, Nat.mul_one]
      have htot : (l ++ s.data.toList).length = l.length + s.size := by rw [List.length_append, hsl]
      by_cases hroom : l.length + s.size ≤ cap
      · have hr := Lib.run_append_room_string (P := P) w t u ty e i ht hu hi hsz g l.length cap cur hg s hroom (by omega)
        refine ⟨_, _, hr, ?_, ⟨rfl, rfl, rfl, by simp, fun k _ hk => setRow_other w g k _ (fun e => hk (by simp [Value.ownBlock, e]))⟩⟩
        unfold BRow
        refine ⟨hlen2, .inr ⟨g, cap, _, by rw [htot], hbg, setRow_heap w g cur _ e _ hg, by rw [htot]; exact hroom, hcm, ?_, ?_⟩⟩
        · simp only [List.size_toArray, List.length_append, List.length_take, List.length_drop, Array.length_toList, Lib.strCells_length]
          omega
        · have ht' : cur.toList.take l.length = bcells l := by simpa using htake
          rw [ht', hsc, ← bcells_append, ← hlen2]
          exact List.take_left
      · have holds : ∀ j u, (bcells l)[j]? = some u → w.cell? ((⟨g, 0, none⟩ : Addr).add j) = some u := World.ownsRow.cells hown (g := g) rfl
        have hr := Lib.run_append_grow_string (P := P) w t u ty e i (.int .u8 0) ht hu hi hz ⟨g, 0, none⟩ l.length cap (bcells l) (by rw [hsz, bcells_length, Nat.mul_one]) holds s (by omega) (by omega) (by rw [hby]; exact growslice_fits_wide (by omega) (by omega))
        have hge := grownCap_ge w (l.length + s.size) cap e
        have hcm2 : grownCap w (l.length + s.size) cap e ≤ maxLen := grownCap_le_maxLen w (l.length + s.size) cap e (by unfold maxLen; omega)
        refine ⟨_, _, hr, ?_, ⟨rfl, rfl, rfl, by simp, fun k hk _ => Below.heap_alloc w.drew _ k hk⟩⟩
        unfold BRow
        refine ⟨hlen2, .inr ⟨w.heap.size, _, _, by rw [htot], hbase, heap_alloc_new w.drew _, by rw [htot]; exact hge, hcm2, ?_, ?_⟩⟩
        · have hz1 : (Value.int IntKind.u8 0).cells.size = 1 := rfl
          simp only [Array.size_append, List.size_toArray, size_zeroCells, hz1, bcells_length, Lib.strCells_length]
          omega
        · simp only [Array.toList_append, List.append_assoc]
          rw [hsc, ← List.append_assoc, ← bcells_append, ← hlen2]
          exact List.take_left
theorem wpList_app_strW {w : World} {ops : Array Oper} {rest : List Oper} {o : Oper} {a : Act} {Q : Exit → Act → World → Prop} {sl x : Operand} {t u e : TypeId}
    (hE : Elem P t e (.int .u8 0) 1 1) (hu : P.underlying u = some .string) {base : Nat} {v : Value} {l : List UInt8} (hown : BRow w base e v l) (hbase : base ≤ w.heap.size)
    (hgd : o.guard = none) (ho : o.op = .call { callee := .builtin .append, args := #[sl, x], argTypes := #[t, u] }) (hs : a.eval sl = v)
    {s : ByteArray} (hx : a.eval x = .string s) (hlen : (l.length + s.size) + (l.length + s.size) / 4 + 192 ≤ 281474976710656) (hs2 : s.size ≤ 140737488355328)
    (h : ∀ v' w', BRow w' base e v' (l ++ s.data.toList) → w.grownBy w' v.ownBlock → wpList P ops Q rest (a.put o.dst v') w') : wpList P ops Q (o :: rest) a w := by
  refine wpList_plain hgd fun K hK => ?_
  obtain ⟨v', w', hrun, h2, h3⟩ := run_app_strW (ty := o.type) hE hu hown hbase hlen hs2
  unfold Oper.wp execOp
  simp only [ho, resolve, invoke, builtin, Sem.run_bind, Sem.run_pure, Result.andThen_ok, List.map_toArray, List.map_cons, List.map_nil, hs, hx]
  rw [hrun]
  exact hK _ _ (h v' w' h2 h3)
end
end Go.Proofs.Ytakileiomgaahaa
