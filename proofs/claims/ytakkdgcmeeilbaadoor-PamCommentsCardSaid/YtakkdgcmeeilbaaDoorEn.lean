/-
  Plain definitions: the bytes of a file of pam.
-/
import Derived.Test.YtakkdgcmeeilbaaDoorE3
namespace Go.Proofs.YtakkdgcmeeilbaaDoor
open Go.RowKit

def entB (m : Mt) : List UInt8 := [35, 32] ++ m.1 ++ [32] ++ m.2 ++ [10]
def metB (ms : List Mt) : List UInt8 := ms.flatMap entB
def sizB (W H : Nat) : List UInt8 := [87, 73, 68, 84, 72, 32] ++ Lib.decDigits W ++ [10, 72, 69, 73, 71, 72, 84, 32] ++ Lib.decDigits H ++ [10]
def grB (d : Nat) : List UInt8 := if d = 16 then [54, 53, 53, 51, 53] else [50, 53, 53]
def endB (d : Nat) : List UInt8 := [68, 69, 80, 84, 72, 32, 52, 10, 77, 65, 88, 86, 65, 76, 32] ++ grB d ++ [10, 84, 85, 80, 76, 84, 89, 80, 69, 32, 82, 71, 66, 95, 65, 76, 80, 72, 65, 10, 69, 78, 68, 72, 68, 82, 10]
def pixB (d : Nat) (px : List Px) : List UInt8 := px.flatMap (pxB d)
def fileB (W H d : Nat) (ms : List Mt) (px : List Px) : List UInt8 := [80, 55, 10] ++ metB ms ++ sizB W H ++ endB d ++ pixB d px
/-- The file of an image, or the error. -/
def encP (W H : Int) (px : List Px) (d : Int) (ms : List Mt) : Except Nat (List UInt8) :=
  if rchk W H px ≠ 0 then .error (rchk W H px)
  else if W = 0 then .error 15
  else if d ≠ 8 ∧ d ≠ 16 then .error 2
  else if chkP ms ≠ 0 then .error (chkP ms)
  else if 1048576 < (fileB W.toNat H.toNat d.toNat ms px).length then .error 3
  else .ok (fileB W.toNat H.toNat d.toNat ms px)
def EncOk (r : Except Nat (List UInt8)) (e : Ending) : Prop :=
  match r with
  | .error k => e = .returned (.tuple #[.string ⟨#[]⟩, .int .i64 k])
  | .ok l => e = .returned (.tuple #[.string ⟨l.toArray⟩, .int .i64 0])
theorem rchk_zero {W H : Int} {px : List Px} (h : rchk W H px = 0) : ∃ w h : Nat, W = (w : Int) ∧ H = (h : Int) ∧ w ≤ 256 ∧ h ≤ 256 ∧ px.length = w * h ∧ ∀ p ∈ px, valP p = true := by
  unfold rchk at h
  split at h
  · cases h
  · rename_i h1
    split at h
    · rename_i h2
      split at h
      · rename_i h3
        refine ⟨W.toNat, H.toNat, by omega, by omega, by omega, by omega, ?_, List.all_eq_true.1 h3⟩
        have e : (px.length : Int) = ((W.toNat * H.toNat : Nat) : Int) := by
          rw [h2.2, Int.natCast_mul]
          congr 1 <;> omega
        omega
      · cases h
    · cases h
theorem pixB_len (d : Nat) (px : List Px) : (pixB d px).length ≤ 8 * px.length := by
  unfold pixB
  induction px with
  | nil => simp
  | cons p l ih =>
    rw [List.flatMap_cons, List.length_append, List.length_cons]
    have := pxB_len d p
    omega
theorem entB_len (m : Mt) : (entB m).length = m.1.length + m.2.length + 4 := by unfold entB; simp; omega
theorem chk_lens {ms : List Mt} (h : chkP ms = 0) : ms.length ≤ 16 ∧ ∀ m ∈ ms, m.1.length ≤ 32 ∧ m.2.length ≤ 256 := by
  have h16 : ms.length ≤ 16 := by
    unfold chkP at h
    split at h
    · cases h
    · omega
  refine ⟨h16, ?_⟩
  have hz := (chkP_zero ms).1 h
  have hA : ∀ l : List Mt, Asc l → ∀ m ∈ l, m.1.length ≤ 32 ∧ m.2.length ≤ 256 := by
    intro l
    induction l with
    | nil => intro _ m hm; cases hm
    | cons q l ih =>
      rintro ⟨h1, h2, -, h4⟩ m hm
      rcases List.mem_cons.1 hm with rfl | hm
      · unfold isK okTxt at h1
        unfold isV okTxt at h2
        simp only [Bool.and_eq_true, decide_eq_true_eq] at h1 h2
        exact ⟨h1.1.2, h2.1.2⟩
      · exact ih h4 m hm
  exact hA ms hz.2
theorem metB_len (ms : List Mt) (h : ∀ m ∈ ms, m.1.length ≤ 32 ∧ m.2.length ≤ 256) : (metB ms).length ≤ 300 * ms.length := by
  unfold metB
  induction ms with
  | nil => simp
  | cons m l ih =>
    rw [List.flatMap_cons, List.length_append, entB_len, List.length_cons]
    have h1 := h m List.mem_cons_self
    have h2 := ih (fun x hx => h x (List.mem_cons_of_mem _ hx))
    omega
end Go.Proofs.YtakkdgcmeeilbaaDoor
