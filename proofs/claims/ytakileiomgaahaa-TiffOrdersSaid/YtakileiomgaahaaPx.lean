/-
  Plain definitions: pixels, rows of pixels (what P9 and P10 hold of them, for seats without pam).
-/
import Derived.Test.YtakileiomgaahaaM4
import Derived.Test.YtakileiomgaahaaRw
import Derived.Test.YtakileiomgaahaaNum
import Derived.Deep.Cut
import Derived.Lib.MinMax
import Derived.Lib.Bytealg
import Derived.CellFam
import Derived.BigQuiet
import Derived.Deep.Draws
import Derived.Deep.QuietTactic
import Derived.Deep.RegionLaw
import Derived.Deep.AppendLies
import Derived.OrdersHeld
import Derived.WalkLawsBesides
import Derived.WalkSpells
import Derived.Outline
import Derived.StillTailTactics
namespace Go.Proofs.Ytakileiomgaahaa
open Go.RowKit

abbrev Px := Int × Int × Int × Int
def pxC (p : Px) : Array Value := #[.int .i64 p.1, .int .i64 p.2.1, .int .i64 p.2.2.1, .int .i64 p.2.2.2]
theorem pxC_inf (p : Px) : (Try.prog.info? 46).map (·.size) = some (pxC p).size := by show _ = some 4; kernel_rfl
theorem pxC_one (p : Px) : (pxC p).all (·.oneCell') = true := by simp [pxC, Value.oneCell']
/-- Pixel i of the row at an address. -/
def PCell (w : World) (b off : Nat) (i : Nat) (p : Px) : Prop := w.cell? ⟨b, off + i * 4, none⟩ = some (.int .i64 p.1) ∧ w.cell? ⟨b, off + i * 4 + 1, none⟩ = some (.int .i64 p.2.1) ∧ w.cell? ⟨b, off + i * 4 + 2, none⟩ = some (.int .i64 p.2.2.1) ∧ w.cell? ⟨b, off + i * 4 + 3, none⟩ = some (.int .i64 p.2.2.2)
/-- The slice value v reads as the pixels l. -/
def PRow (w : World) (v : Value) (l : List Px) : Prop :=
  ∃ x c, v = .slice x l.length c ∧ l.length ≤ c ∧ c ≤ maxLen ∧ (x = none → c = 0) ∧ (l ≠ [] → ∃ b off, x = some ⟨b, off, none⟩ ∧ ∀ i (h : i < l.length), PCell w b off i l[i])
theorem PRow.one {w : World} {v : Value} {l : List Px} (h : PRow w v l) : v.oneCell' = true := by obtain ⟨x, c, rfl, -⟩ := h; rfl
theorem PRow.below {w w' : World} {v : Value} {l : List Px} (h : PRow w v l) (hb : Below w.heap.size w w') : PRow w' v l := by
  obtain ⟨x, c, rfl, h1, h2, h3, h4⟩ := h
  refine ⟨x, c, rfl, h1, h2, h3, fun hne => ?_⟩
  obtain ⟨b, off, rfl, hc⟩ := h4 hne
  refine ⟨b, off, rfl, fun i hi => ?_⟩
  obtain ⟨c1, c2, c3, c4⟩ := hc i hi
  have hlt : b < w.heap.size := World.block_lt_of_cell? w _ c1
  exact ⟨(hb.cell (p := ⟨b, _, none⟩) hlt).trans c1, (hb.cell (p := ⟨b, _, none⟩) hlt).trans c2, (hb.cell (p := ⟨b, _, none⟩) hlt).trans c3, (hb.cell (p := ⟨b, _, none⟩) hlt).trans c4⟩
/-- The cells of a row of pixels. -/
def pixA (l : List Px) : Array Value := (l.flatMap fun p => (pxC p).toList).toArray
theorem pixA_size (l : List Px) : (pixA l).size = l.length * 4 := by
  unfold pixA
  induction l with
  | nil => rfl
  | cons p l ih =>
    simp only [List.size_toArray, List.flatMap_cons, List.length_append, List.length_cons] at ih ⊢
    rw [ih]
    simp [pxC]; omega
def pxG (p : Px) (j : Nat) : Int := if j = 0 then p.1 else if j = 1 then p.2.1 else if j = 2 then p.2.2.1 else p.2.2.2
theorem pixA_get (l : List Px) (i j : Nat) (h : i < l.length) (hj : j < 4) : (pixA l)[i * 4 + j]? = some (.int .i64 (pxG l[i] j)) := by
  unfold pixA
  induction l generalizing i with
  | nil => simp at h
  | cons p l ih =>
    rw [List.getElem?_toArray, List.flatMap_cons]
    have hl : (pxC p).toList.length = 4 := rfl
    cases i with
    | zero =>
      rw [List.getElem?_append_left (by rw [hl]; omega)]
      match j, hj with
      | 0, _ => rfl
      | 1, _ => rfl
      | 2, _ => rfl
      | 3, _ => rfl
    | succ i =>
      rw [List.getElem?_append_right (by rw [hl]; omega), hl]
      have := ih i (by simpa using h)
      rw [List.getElem?_toArray] at this
      rw [show (i + 1) * 4 + j - 4 = i * 4 + j by omega, this]
      rfl
theorem pixA_set (l : List Px) (k : Nat) (hk : k < l.length) (p : Px) :
    ((((pixA l).setIfInBounds (k * 4) (.int .i64 p.1)).setIfInBounds (k * 4 + 1) (.int .i64 p.2.1)).setIfInBounds (k * 4 + 2) (.int .i64 p.2.2.1)).setIfInBounds (k * 4 + 3) (.int .i64 p.2.2.2) = pixA (l.set k p) := by
  apply Array.ext_getElem?
  intro j
  have hs := pixA_size l
  by_cases hj : j < l.length * 4
  · have hi : j / 4 < l.length := by omega
    have e := pixA_get (l.set k p) (j / 4) (j % 4) (by simpa using hi) (by omega)
    have e0 := pixA_get l (j / 4) (j % 4) hi (by omega)
    rw [show j / 4 * 4 + j % 4 = j by omega] at e e0
    rw [e]
    by_cases hjk : j / 4 = k
    · subst hjk
      rw [List.getElem_set_self]
      have h4 : j % 4 = 0 ∨ j % 4 = 1 ∨ j % 4 = 2 ∨ j % 4 = 3 := by omega
      rcases h4 with h | h | h | h
      · rw [Array.getElem?_setIfInBounds_ne (by omega), Array.getElem?_setIfInBounds_ne (by omega), Array.getElem?_setIfInBounds_ne (by omega), h, show j / 4 * 4 = j by omega, Array.getElem?_setIfInBounds_self_of_lt (by omega)]; rfl
      · rw [Array.getElem?_setIfInBounds_ne (by omega), Array.getElem?_setIfInBounds_ne (by omega), h, show j / 4 * 4 + 1 = j by omega, Array.getElem?_setIfInBounds_self_of_lt (by simp; omega)]; rfl
      · rw [Array.getElem?_setIfInBounds_ne (by omega), h, show j / 4 * 4 + 2 = j by omega, Array.getElem?_setIfInBounds_self_of_lt (by simp; omega)]; rfl
      · rw [h, show j / 4 * 4 + 3 = j by omega, Array.getElem?_setIfInBounds_self_of_lt (by simp; omega)]; rfl
    · rw [List.getElem_set_ne (fun e => hjk e.symm), Array.getElem?_setIfInBounds_ne (by omega), Array.getElem?_setIfInBounds_ne (by omega), Array.getElem?_setIfInBounds_ne (by omega), Array.getElem?_setIfInBounds_ne (by omega), e0]
  · rw [Array.getElem?_eq_none (by simp; omega), Array.getElem?_eq_none (by rw [pixA_size]; simp; omega)]
theorem Blk.prow {w : World} {b : Nat} {l : List Px} (h : Blk w b 46 (pixA l)) (c : Nat) (hc : l.length ≤ c) (hm : c ≤ maxLen) : PRow w (.slice (some ⟨b, 0, none⟩) l.length c) l := by
  refine ⟨_, c, rfl, hc, hm, (fun h => by cases h), fun _ => ⟨b, 0, rfl, fun i hi => ?_⟩⟩
  have g := fun j hj => (h.cell (i * 4 + j)).trans (pixA_get l i j hi hj)
  refine ⟨?_, ?_, ?_, ?_⟩
  · have := g 0 (by decide); simp only [pxG, Nat.zero_add, Nat.add_zero] at this ⊢; exact this
  · have := g 1 (by decide); simp only [pxG, Nat.zero_add] at this ⊢; exact this
  · have := g 2 (by decide); simp only [pxG, Nat.zero_add] at this ⊢; exact this
  · have := g 3 (by decide); simp only [pxG, Nat.zero_add] at this ⊢; exact this
theorem el_pix : Elem Try.prog 32 46 (.agg (pxC (0, 0, 0, 0))) 4 32 := by
  refine ⟨Try.underlying32, ?_, rfl, by decide⟩
  exact info_parts (by kernel_rfl)
theorem made_pix (n : Nat) : madeCells (Value.agg (pxC (0, 0, 0, 0))).cells (n * 4) = pixA (List.replicate n (0, 0, 0, 0)) := by
  apply Array.ext_getElem?
  intro j
  have hs := pixA_size (List.replicate n (0, 0, 0, 0))
  have hs2 : (madeCells (Value.agg (pxC (0, 0, 0, 0))).cells (n * 4)).size = n * 4 := by simp [size_madeCells]
  simp only [List.length_replicate] at hs
  by_cases hj : j < n * 4
  · have e := pixA_get (List.replicate n (0, 0, 0, 0)) (j / 4) (j % 4) (by simp; omega) (by omega)
    rw [show j / 4 * 4 + j % 4 = j by omega] at e
    rw [e, Array.getElem?_eq_getElem (by omega)]
    simp only [madeCells, List.getElem_replicate]
    have h4 : j % 4 = 0 ∨ j % 4 = 1 ∨ j % 4 = 2 ∨ j % 4 = 3 := by omega
    have hc : (Value.agg (pxC (0, 0, 0, 0))).cells.size = 4 := rfl
    rcases h4 with h | h | h | h <;> simp [h, Value.cells, pxC, pxG]
  · rw [Array.getElem?_eq_none (by omega), Array.getElem?_eq_none (by omega)]
theorem run_mkpix (n : Nat) (hb : n ≤ 1000000) (w : World) :
    (Instr.makeSlice 32 (.int .i64 (n : Int)) (.int .i64 (n : Int))).run Try.prog w = .ok (.slice (some ⟨w.heap.size, 0, none⟩) n n) (w.alloc (.cells (pixA (List.replicate n (0, 0, 0, 0))) 46)) := by
  obtain ⟨ht, ⟨i, hi, hzz, hsz, hby⟩, _, _⟩ := el_pix
  have hr := run_make (P := Try.prog) w 32 46 i (.agg (pxC (0, 0, 0, 0))) ht hi hzz .i64 .i64 n n (by omega) (by omega) (by rw [hby]; omega) (by omega)
  rw [hr, Int.toNat_natCast, hsz, made_pix]

def imgC (w h : Nat) (v : Value) : Array Value := #[.int .i64 w, .int .i64 h, v]
def img0 : Array Value := imgC 0 0 (.slice none 0 0)
theorem imgC_inf (w h : Nat) (v : Value) : (Try.prog.info? 34).map (·.size) = some (imgC w h v).size := by show _ = some 3; kernel_rfl
theorem imgC_one (w h : Nat) (v : Value) (hv : v.oneCell' = true) : (imgC w h v).all (·.oneCell') = true := by
  unfold Value.oneCell' at hv
  simp [imgC, Value.oneCell']; exact hv
theorem img0_one : img0.all (·.oneCell') = true := imgC_one _ _ _ rfl
theorem img0_inf : (Try.prog.info? 34).map (·.size) = some img0.size := imgC_inf _ _ _
theorem ba_size (s : ByteArray) : s.data.toList.length = s.size := by simp
theorem ba_len (l : List UInt8) : (ByteArray.mk l.toArray).size = l.length := by simp [ByteArray.size]
end Go.Proofs.Ytakileiomgaahaa
