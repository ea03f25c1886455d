/-
  Walks: the bytes of a pixel, in the program of pam.
-/
import Derived.Test.YtakileiomgaahaaRas
namespace Go.Proofs.Ytakileiomgaahaa
open Go.RowKit

theorem el_u8 : Elem Try.prog 54 5 (.int .u8 0) 1 1 := by
  refine ⟨Try.underlying54, ?_, rfl, by decide⟩
  exact info_parts (by kernel_rfl)
theorem brow_shape {w : World} {b : Nat} {e : TypeId} {v : Value} {l : List UInt8} (h : BRow w b e v l) : ∃ x c, v = .slice x l.length c := by
  rcases h.2 with ⟨rfl, h0⟩ | ⟨g, cap, cur, rfl, _⟩
  · exact ⟨none, 0, by rw [h0]⟩
  · exact ⟨_, _, rfl⟩
/-- The bytes of a value. -/
def smB (d : Nat) (v : Int) : List UInt8 := if d = 16 then [UInt8.ofNat (v.toNat / 256), UInt8.ofNat (v.toNat % 256)] else [UInt8.ofNat (to8I v).toNat]
/-- The bytes of a pixel. -/
def pxB (d : Nat) (p : Px) : List UInt8 :=
  if d = 16 then smB 16 p.1 ++ smB 16 p.2.1 ++ smB 16 p.2.2.1 ++ smB 16 p.2.2.2
  else if to8I p.2.2.2 = 0 then [0, 0, 0, 0] else smB 8 p.1 ++ smB 8 p.2.1 ++ smB 8 p.2.2.1 ++ smB 8 p.2.2.2
theorem pxB_len (d : Nat) (p : Px) : (pxB d p).length ≤ 8 := by
  unfold pxB smB
  split
  · simp
  · split <;> simp
def pxAt (p : Px) (i : Nat) : Int := if i = 0 then p.1 else if i = 1 then p.2.1 else if i = 2 then p.2.2.1 else p.2.2.2
theorem pxC_at (p : Px) (i : Nat) (hi : i < 4) : (pxC p)[i]? = some (.int .i64 (pxAt p i)) := by
  match i, hi with
  | 0, _ => rfl
  | 1, _ => rfl
  | 2, _ => rfl
  | 3, _ => rfl

theorem idx4_0 (a b c q : Int) (w : World) : (Instr.index 112 (.agg #[.int .i64 a, .int .i64 b, .int .i64 c, .int .i64 q]) (.int .i64 0)).run Try.prog w = .ok (.int .i64 a) w := by kernel_rfl
theorem idx4_1 (a b c q : Int) (w : World) : (Instr.index 112 (.agg #[.int .i64 a, .int .i64 b, .int .i64 c, .int .i64 q]) (.int .i64 1)).run Try.prog w = .ok (.int .i64 b) w := by kernel_rfl
theorem idx4_2 (a b c q : Int) (w : World) : (Instr.index 112 (.agg #[.int .i64 a, .int .i64 b, .int .i64 c, .int .i64 q]) (.int .i64 2)).run Try.prog w = .ok (.int .i64 c) w := by kernel_rfl
theorem idx4_3 (a b c q : Int) (w : World) : (Instr.index 112 (.agg #[.int .i64 a, .int .i64 b, .int .i64 c, .int .i64 q]) (.int .i64 3)).run Try.prog w = .ok (.int .i64 q) w := by kernel_rfl
theorem idx4 (a b c q : Int) (i : Nat) (hi : i < 4) (w : World) : (Instr.index 112 (.agg #[.int .i64 a, .int .i64 b, .int .i64 c, .int .i64 q]) (.int .i64 (i : Int))).run Try.prog w = .ok (.int .i64 (pxAt (a, b, c, q) i)) w := by
  match i, hi with
  | 0, _ => exact idx4_0 a b c q w
  | 1, _ => exact idx4_1 a b c q w
  | 2, _ => exact idx4_2 a b c q w
  | 3, _ => exact idx4_3 a b c q w
theorem valP_at (p : Px) (h : valP p = true) (i : Nat) : ∃ n : Nat, pxAt p i = (n : Int) ∧ n ≤ 65535 := by
  unfold valP at h
  simp only [Bool.and_eq_true, beq_iff_eq] at h
  have k : ∀ x : Int, uI x = x → ∃ n : Nat, x = (n : Int) ∧ n ≤ 65535 := fun x hx => by
    have := uI_rng x
    rw [hx] at this
    exact ⟨x.toNat, by omega, by omega⟩
  unfold pxAt
  split
  · exact k _ h.1.1.1
  · split
    · exact k _ h.1.1.2
    · split
      · exact k _ h.1.2
      · exact k _ h.2
theorem two_cells (n : Nat) (h : n ≤ 65535) : [Value.int .u8 ((n : Int) / 256), Value.int .u8 ((n : Int) % 256)] = bcells [UInt8.ofNat (n / 256), UInt8.ofNat (n % 256)] := by
  simp only [bcells, List.map_cons, List.map_nil]
  rw [bcell_ofNat (n / 256) (by omega), bcell_ofNat (n % 256) (by omega)]; rfl
theorem one_cell (n : Nat) (h : n ≤ 255) : [Value.int .u8 (n : Int)] = bcells [UInt8.ofNat n] := by
  simp only [bcells, List.map_cons, List.map_nil]
  rw [bcell_ofNat n (by omega)]
theorem to8_nat (x : Int) : ∃ n : Nat, to8I x = (n : Int) ∧ n ≤ 255 := by
  have := to8I_rng x
  exact ⟨(to8I x).toNat, by omega, by omega⟩
theorem brow_put {w : World} {B k : Nat} {v : Value} {l : List UInt8} {t : TypeId} {cs : Array Value} (h : BRow w B 5 v l) (hb : Blk w k t cs) (ht : t ≠ 5) (i : Nat) (u : Value) : BRow (w.setCell ⟨k, i, none⟩ u) B 5 v l :=
  ((Fr.refl k [t] w).put hb (Nat.le_refl _) (by simp) i u).owns h (by simpa using fun e => ht e.symm)
/-- The bytes of the first values. -/
def vsB (d : Nat) (f : Nat → Int) (i : Nat) : List UInt8 := (List.range i).flatMap fun k => smB d (f k)
theorem vsB_succ (d : Nat) (f : Nat → Int) (i : Nat) : vsB d f (i + 1) = vsB d f i ++ smB d (f i) := by
  unfold vsB; rw [List.range_succ, List.flatMap_append]; simp
theorem vsB_len (d : Nat) (f : Nat → Int) (i : Nat) : (vsB d f i).length ≤ 2 * i := by
  induction i with
  | zero => simp [vsB]
  | succ i ih =>
    rw [vsB_succ, List.length_append]
    have : (smB d (f i)).length ≤ 2 := by unfold smB; split <;> simp
    omega

end Go.Proofs.Ytakileiomgaahaa
