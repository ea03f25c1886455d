/-
  A region that draws its order and only reads, in a round of a range over a function.
-/
import Derived.Sort.QuietIn
import Derived.OwnWalkIn
import Derived.Test.YtgjbelcnkmcbiaaDoorLib
namespace Go.Proofs.YtgjbelcnkmcbiaaDoor
open Go.RowKit

section
variable {F : Fence} {n : Nat} {P : Program} {md : Region.Mode} {ops : Array Oper} {C : World → Prop} {Q' : Exit → Act → World → Prop}
def noDefer (o : Oper) : Bool := match o.op with | .defer _ => false | _ => true
theorem noDefer_ne {o : Oper} (h : noDefer o = true) : ∀ c, o.op ≠ .defer c := by
  intro c e
  unfold noDefer at h
  rw [e] at h
  cases h
theorem oper_round {l : Nat} {o : Oper} {a : Act} {w : World} {K K' : Act → World → Prop} (hd : noDefer o = true) (hk : ∀ a w, K a w → K' a w) (h : o.wpIn F n P a w K Q') : o.wpIn (F.inRound l) n P a w K' Q' := by
  have h := Oper.wpIn_mono hk h
  unfold Oper.wpIn at h ⊢
  rw [Oper.semAt_plain _ _ _ (noDefer_ne hd)] at h ⊢
  exact h
theorem any_round {l : Nat} (hd : ops.all noDefer = true) : ∀ (fuel : Nat) (listed : Array Bool) (a : Act) (w : World), wpAnyIn F n P md ops Q' fuel listed a w → wpAnyIn (F.inRound l) n P md ops Q' fuel listed a w
  | 0, _, _, _, h => h
  | fuel + 1, listed, a, w, h => by
    refine ⟨h.1, fun i hi => ?_⟩
    have h2 := h.2 i hi
    unfold wpOpIn at h2 ⊢
    cases ho : ops[i]? with
    | none => rw [ho] at h2; exact any_round hd fuel _ _ _ h2
    | some o =>
      rw [ho] at h2
      simp only at h2 ⊢
      have hdo : noDefer o = true := by
        have := Array.all_eq_true.1 hd
        obtain ⟨hlt, rfl⟩ := Array.getElem?_eq_some_iff.1 ho
        exact this i hlt
      split
      · rename_i hw; rw [if_pos hw] at h2; exact oper_round hdo (fun a w => any_round hd fuel _ a w) h2
      · rename_i hw; rw [if_neg hw] at h2; exact ⟨h2.1, any_round hd fuel _ _ _ h2.2⟩
/-- One walk of the written order serves every order, in a round. -/
theorem wpIn_region_quiet_round {l id : Nat} {Q : Exit → Act → World → Prop} {a : Act} {w : World} {os : List Oper} (hro : F.round = none) (hd : os.toArray.all noDefer = true) (hm : P.follows .mixedOrders = true) (hB : Region.lexB .any os.toArray = true)
    (h : wpQuietIn F n P os.toArray (fun w' => ∃ n, w' = w.drewN n) (fun a' => ∀ w', (∃ n, w' = w.drewN n) → Q .normal a' w') os a) : (Code.region id os.toArray true).wpIn (F.inRound l) n P Q a w := by
  simp only [Region.lexB, Bool.and_eq_true] at hB
  refine wpIn_region_any hm (any_round hd _ _ _ _ (wpAnyIn_of_quiet (C := fun w' => ∃ n, w' = w.drewN n) (Q := fun a' => ∀ w', (∃ n, w' = w.drewN n) → Q .normal a' w') hro (fun _ w' hw' h => h w' hw') _ _ _ _ ⟨1, rfl⟩ ?_))
  have := wpAnyQIn_lex (F := F) (n := n) (C := fun w' => ∃ n, w' = w.drewN n) (md := .any) hB.1 os 0 (Array.replicate os.toArray.size false) a (by simp) (by simpa using hB.2) h
  simpa using this
end
end Go.Proofs.YtgjbelcnkmcbiaaDoor
