/-
  Plain parts and laws for the walk of a dynamic block's codes.
-/
import Derived.Test.YthbejefodelpkaaGreatZQ
namespace Go.Proofs.YthbejefodelpkaaGreat
open Go.RowKit

theorem setRow_same {w : World} {g : Nat} {t : TypeId} {cs : Array Value} (h : Blk w g t cs) : w.setRow g cs = w := by
  have hh : (w.setRow g cs).heap = w.heap := by
    apply Array.ext_getElem?
    intro i
    by_cases hi : i = g
    · subst hi
      have := h.setRow cs
      unfold Blk at this h
      rw [this, h]
    · exact heap_setRow_ne w g i cs hi
  cases w
  simp only [World.setRow] at hh ⊢
  simp [hh]
/-- A row stored over the same row: the world stays. -/
theorem wpList_store_same {P : Program} {ops : Array Oper} {rest : List Oper} {o : Oper} {a : Act} {w : World} {Q : Exit → Act → World → Prop} (hgd : o.guard = none) (ty : TypeId) (x y : Operand) (ho : o.op = .store ty x y)
    (hd : o.dst = none) (g : Nat) (cells : Array Value) (hx : a.eval x = .pointer (some ⟨g, 0, none⟩)) (hy : a.eval y = .agg cells)
    (t : TypeId) (hg : Blk w g t cells) (hi : (P.info? ty).map (·.size) = some cells.size) (h1 : cells.all (·.oneCell') = true)
    (h : wpList P ops Q rest a w) : wpList P ops Q (o :: rest) a w := by
  refine wpList_store_rowTo hgd ty x y ho hd g cells hx hy t cells hg hi rfl h1 ?_
  rw [setRow_same hg]
  exact h

def decZ : Array Value := decA (fun _ => 0) (.slice none 0 0) 0 0
theorem decZ_built : Tryz.prog.built 164 [] = some decZ := by kernel_rfl
theorem decZ_inf : (Tryz.prog.info? 164).map (·.size) = some decZ.size := inf19
theorem decZ_one : decZ.all (·.oneCell') = true := by simp [decZ, decA, Value.oneCell']
theorem ordV_built : Tryz.prog.built 182 [(0, .int .i64 16), (1, .int .i64 17), (2, .int .i64 18), (3, .int .i64 0), (4, .int .i64 8), (5, .int .i64 7), (6, .int .i64 9), (7, .int .i64 6), (8, .int .i64 10), (9, .int .i64 5), (10, .int .i64 11), (11, .int .i64 4), (12, .int .i64 12), (13, .int .i64 3), (14, .int .i64 13), (15, .int .i64 2), (16, .int .i64 14), (17, .int .i64 1), (18, .int .i64 15)] = some (rowA ordC) := by kernel_rfl
theorem arr19_inf (l : List Nat) (h : l.length = 19) : (Tryz.prog.info? 182).map (·.size) = some (rowA l).size := by
  rw [rowA_size, h]
  kernel_rfl
theorem rowA_one (l : List Nat) : (rowA l).all (·.oneCell') = true := by
  rw [Array.all_eq_true']
  intro v hv
  simp only [rowA, icells, List.mem_toArray, List.mem_map] at hv
  obtain ⟨n, _, rfl⟩ := hv
  rfl
theorem row19_zero : rowA (List.replicate 19 0) = #[.int .i64 0, .int .i64 0, .int .i64 0, .int .i64 0, .int .i64 0, .int .i64 0, .int .i64 0, .int .i64 0, .int .i64 0, .int .i64 0, .int .i64 0, .int .i64 0, .int .i64 0, .int .i64 0, .int .i64 0, .int .i64 0, .int .i64 0, .int .i64 0, .int .i64 0] := rfl
/-- Cells of a row of numbers, whatever its block's type: read through a slice. -/
theorem read_row {w : World} {k : Nat} {t : TypeId} {l : List Nat} (h : Blk w k t (rowA l)) (n c : Nat) (hn : n ≤ l.length) (hc : n ≤ c) (hm : c ≤ maxLen) : IRead w (.slice (some ⟨k, 0, none⟩) n c) (l.take n) := by
  have hl : (l.take n).length = n := by simp; omega
  refine ⟨_, c, by rw [hl], by omega, hm, fun _ => ⟨k, 0, rfl, fun j hj => ?_⟩⟩
  rw [h.cell, Nat.zero_add, rowA_get l j (by omega)]
  simp

def dyn4 (h d : Nat) (cl : List Nat) (b4 : List Bool) : Except Nat ((List Nat × List Nat) × List Bool) :=
  if sumC cl ≠ 32768 then .error 4 else
  match lstT cl (h + 257 + d + 1) b4 with
  | .error e => .error e
  | .ok (all, b5) =>
    if sumC (all.take (h + 257)) ≠ 32768 ∨ all.getD 256 0 = 0 then .error 4
    else if disR (all.drop (h + 257)) then .ok ((all.take (h + 257), all.drop (h + 257)), b5)
    else .error 4
def dyn3 (h d k : Nat) (b3 : List Bool) : Except Nat ((List Nat × List Nat) × List Bool) :=
  if 29 < h ∨ 29 < d then .error 4 else
  match clGo (ordC.take (k + 4)) (List.replicate 19 0) b3 with
  | .error e => .error e
  | .ok (cl, b4) => dyn4 h d cl b4
def dyn2 (h d : Nat) (b2 : List Bool) : Except Nat ((List Nat × List Nat) × List Bool) :=
  match numT b2 4 with
  | .error e => .error e
  | .ok (k, b3) => dyn3 h d k b3
def dyn1 (h : Nat) (b1 : List Bool) : Except Nat ((List Nat × List Nat) × List Bool) :=
  match numT b1 5 with
  | .error e => .error e
  | .ok (d, b2) => dyn2 h d b2
theorem dyn0 (b : List Bool) : dynT b = match numT b 5 with | .error e => .error e | .ok (h, b1) => dyn1 h b1 := rfl

theorem symGo_lt (ls : List Nat) (f n code : Nat) (b b' : List Bool) (s : Nat) (hc : endC ls n ≤ code) (h : symGo ls f n code b = .ok (s, b')) : s < ls.length := by
  induction f generalizing n code b with
  | zero => cases h
  | succ f ih =>
    cases b with
    | nil => cases h
    | cons x b =>
      unfold symGo at h
      have hF : fstC ls (n + 1) ≤ 2 * code + x.toNat := by rw [fstC_succ]; omega
      split at h
      · rename_i hlt
        cases h
        exact (cod_find ls (n + 1) _ (by omega) hF hlt).1
      · rename_i hge
        split at h
        · cases h
        · exact ih _ _ _ (by omega) h
theorem symT_lt {ls : List Nat} {b b' : List Bool} {s : Nat} (h : symT ls b = .ok (s, b')) : s < ls.length := symGo_lt ls _ 0 0 b b' s (Nat.le_refl _) h
theorem lstGo_ok (cl : List Nat) (n f : Nat) (acc : List Nat) (b b' : List Bool) (l : List Nat) (hcl : cl.length ≤ 19) (ha : ∀ x ∈ acc, x ≤ 15) (h : lstGo cl n f acc b = .ok (l, b')) : l.length = n ∧ ∀ x ∈ l, x ≤ 15 := by
  induction f generalizing acc b with
  | zero => cases h
  | succ f ih =>
    unfold lstGo at h
    split at h
    · split at h
      · rename_i h1; cases h; exact ⟨h1, ha⟩
      · cases h
    · split at h
      · cases h
      · rename_i s b1 hs
        have hs19 := symT_lt hs
        have hrep : ∀ k x, x ≤ 15 → ∀ y ∈ acc ++ List.replicate k x, y ≤ 15 := by
          intro k x hx y hy
          rcases List.mem_append.1 hy with hy | hy
          · exact ha y hy
          · rw [(List.mem_replicate.1 hy).2]; exact hx
        split at h
        · split at h
          · cases h
          · rename_i hne
            split at h
            · cases h
            · refine ih _ _ (hrep _ _ ?_) h
              have hj : acc.length - 1 < acc.length := by omega
              have : acc.getD (acc.length - 1) 0 = acc[acc.length - 1] := by simp [List.getD, hj]
              rw [this]
              exact ha _ (List.getElem_mem hj)
        · split at h
          · split at h
            · cases h
            · exact ih _ _ (hrep _ _ (by omega)) h
          · split at h
            · split at h
              · cases h
              · exact ih _ _ (hrep _ _ (by omega)) h
            · exact ih _ _ (hrep 1 s (by omega)) h
theorem lstT_ok {cl : List Nat} {n : Nat} {b b' : List Bool} {l : List Nat} (hcl : cl.length ≤ 19) (h : lstT cl n b = .ok (l, b')) : l.length = n ∧ ∀ x ∈ l, x ≤ 15 := lstGo_ok cl n _ [] b b' l hcl (by simp) h
theorem lstGo_err (cl : List Nat) (n f : Nat) (acc : List Nat) (b : List Bool) (k : Nat) (hf : n - acc.length < f) (h : lstGo cl n f acc b = .error k) : k ≠ 0 := by
  induction f generalizing acc b with
  | zero => omega
  | succ f ih =>
    unfold lstGo at h
    split at h
    · split at h
      · cases h
      · cases h; decide
    · rename_i hlt
      split at h
      · rename_i hs; cases h; exact symT_err hs
      · split at h
        · split at h
          · cases h; decide
          · split at h
            · rename_i hs; cases h; exact numT_err hs
            · exact ih _ _ (by simp; omega) h
        · split at h
          · split at h
            · rename_i hs; cases h; exact numT_err hs
            · exact ih _ _ (by simp; omega) h
          · split at h
            · split at h
              · rename_i hs; cases h; exact numT_err hs
              · exact ih _ _ (by simp; omega) h
            · exact ih _ _ (by simp; omega) h
theorem lstT_err {cl : List Nat} {n : Nat} {b : List Bool} {k : Nat} (h : lstT cl n b = .error k) : k ≠ 0 := lstGo_err cl n _ [] b k (by simp) h
theorem clGo_err (r c : List Nat) (b : List Bool) (k : Nat) (h : clGo r c b = .error k) : k ≠ 0 := by
  induction r generalizing c b with
  | nil => cases h
  | cons o r ih =>
    unfold clGo at h
    split at h
    · rename_i hs; cases h; exact numT_err hs
    · exact ih _ _ h
theorem dynT_err {b : List Bool} {k : Nat} (h : dynT b = .error k) : k ≠ 0 := by
  rw [dyn0] at h
  split at h
  · rename_i hs; cases h; exact numT_err hs
  · unfold dyn1 at h
    split at h
    · rename_i hs; cases h; exact numT_err hs
    · unfold dyn2 at h
      split at h
      · rename_i hs; cases h; exact numT_err hs
      · unfold dyn3 at h
        split at h
        · cases h; decide
        · split at h
          · rename_i hs; cases h; exact clGo_err _ _ _ _ hs
          · unfold dyn4 at h
            split at h
            · cases h; decide
            · split at h
              · rename_i hs; cases h; exact lstT_err hs
              · split at h
                · cases h; decide
                · split at h
                  · cases h
                  · cases h; decide
/-- What reading the codes promises. -/
def DynOk (s : ByteArray) (most zb : Nat) (v : Value) (r : Except Nat ((List Nat × List Nat) × List Bool)) (e : Ending) (w : World) : Prop :=
  match r with
  | .error k => e = .returned (.tuple #[.agg decZ, .agg decZ, .int .i64 k])
  | .ok ((ll, dl), b) => (∃ u u', e = .returned (.tuple #[u, u', .int .i64 0]) ∧ DecV w ll u ∧ DecV w dl u') ∧ ∃ p, p ≤ 8 * s.size ∧ b = bitsAt s p ∧ Blk w zb 141 (zc s p most v)
end Go.Proofs.YthbejefodelpkaaGreat
