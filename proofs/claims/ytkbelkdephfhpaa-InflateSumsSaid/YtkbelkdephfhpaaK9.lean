/-
  Plain laws: what a reader reads is a beginning of the bits; a shorter beginning is too short.
-/
import Derived.Test.YtkbelkdephfhpaaK5
import Derived.Test.YtkbelkdephfhpaaI16
namespace Go.Proofs.Ytkbelkdephfhpaa
open Go.RowKit

/-- A reader that takes a beginning: with other bits behind it the same; of a shorter beginning (of a length that is equal modulo 8) nothing but 'too short'. -/
def Rd {α : Type} (g : List Bool → Except Nat (α × List Bool)) : Prop := ∀ b x b', g b = .ok (x, b') →
  ∃ c, b = c ++ b' ∧ (∀ t : List Bool, t.length % 8 = b'.length % 8 → g (c ++ t) = .ok (x, t)) ∧ ∀ k, k < c.length → k % 8 = b.length % 8 → g (c.take k) = .error 5
theorem Rd.pure {α : Type} (x : α) : Rd (fun b => .ok (x, b)) := by
  intro b y b' h
  cases h
  exact ⟨[], rfl, fun _ _ => rfl, fun k hk => absurd hk (Nat.not_lt_zero _)⟩
theorem Rd.err {α : Type} (e : Nat) : Rd (fun _ => (.error e : Except Nat (α × List Bool))) := by intro b y b' h; cases h
theorem Rd.bind {α β : Type} {g : List Bool → Except Nat (α × List Bool)} {h : α → List Bool → Except Nat (β × List Bool)} (hg : Rd g) (hh : ∀ x, Rd (h x)) :
    Rd (fun b => match g b with | .error e => .error e | .ok (x, b1) => h x b1) := by
  intro b y b' he
  cases hgb : g b with
  | error e => simp only [hgb] at he; cases he
  | ok xb =>
    obtain ⟨x, b1⟩ := xb
    simp only [hgb] at he
    obtain ⟨c1, e1, t1, s1⟩ := hg b x b1 hgb
    obtain ⟨c2, e2, t2, s2⟩ := hh x b1 y b' he
    subst e2
    subst e1
    refine ⟨c1 ++ c2, by simp, fun t ht => ?_, fun k hk hm => ?_⟩
    · have := t1 (c2 ++ t) (by simp only [List.length_append]; omega)
      simp only [List.append_assoc, this]
      exact t2 t ht
    · simp only [List.length_append] at hk hm
      by_cases hk1 : k < c1.length
      · have e : (c1 ++ c2).take k = c1.take k := by rw [List.take_append_of_le_length (by omega)]
        simp only [e, s1 k hk1 (by simp only [List.length_append]; omega)]
      · have e : (c1 ++ c2).take k = c1 ++ c2.take (k - c1.length) := by rw [List.take_append, List.take_of_length_le (by omega)]
        have := t1 (c2.take (k - c1.length)) (by simp only [List.length_append, List.length_take]; omega)
        simp only [e, this]
        exact s2 (k - c1.length) (by omega) (by simp only [List.length_append]; omega)
theorem Rd.of {α β : Type} {F : List Bool → Except Nat (β × List Bool)} {g : List Bool → Except Nat (α × List Bool)} {h : α → List Bool → Except Nat (β × List Bool)} (h1 : ∀ b e, g b = .error e → F b = .error e) (h2 : ∀ b x b1, g b = .ok (x, b1) → F b = h x b1) (hg : Rd g) (hh : ∀ x, Rd (h x)) : Rd F := by
  have e : F = fun b => match g b with | .error e => .error e | .ok (x, b1) => h x b1 := by
    funext b
    cases hgb : g b with
    | error e => rw [h1 b e hgb]
    | ok xb => obtain ⟨x, b1⟩ := xb; rw [h2 b x b1 hgb]
  rw [e]
  exact Rd.bind hg hh
theorem Rd.ite {α : Type} {p : Prop} [Decidable p] {g h : List Bool → Except Nat (α × List Bool)} (hg : p → Rd g) (hh : ¬ p → Rd h) : Rd (fun b => if p then g b else h b) := by
  by_cases hp : p
  · simp only [hp, if_true]; exact hg hp
  · simp only [hp, if_false]; exact hh hp
theorem rd_num (n : Nat) : Rd (fun b => numT b n) := by
  intro b x b' h
  obtain ⟨h1, h2, h3, _⟩ := numT_ok h
  refine ⟨b.take n, by rw [h2, List.take_append_drop], fun t _ => ?_, fun k hk _ => ?_⟩
  · have hl : (b.take n).length = n := by simp; omega
    show numT (b.take n ++ t) n = _
    unfold numT
    rw [if_neg (by simp; omega), List.take_left' hl, List.drop_left' hl, ← h3]
  · have hl : (b.take n).length = n := by simp; omega
    show numT ((b.take n).take k) n = _
    unfold numT
    rw [if_pos (by simp; omega)]
theorem rd_symGo (ls : List Nat) (f n code : Nat) : Rd (fun b => symGo ls f n code b) := by
  intro b s b' h
  induction f generalizing n code b with
  | zero => cases h
  | succ f ih =>
    cases b with
    | nil => cases h
    | cons x b =>
      simp only [symGo] at h
      by_cases hin : 2 * code + x.toNat < endC ls (n + 1)
      · rw [if_pos hin] at h
        cases h
        refine ⟨[x], rfl, fun t _ => ?_, fun k hk _ => ?_⟩
        · show symGo ls (f + 1) n code (x :: t) = _
          rw [symGo, if_pos hin]
        · simp at hk
          subst hk
          rfl
      · rw [if_neg hin] at h
        by_cases hf : endC ls (lngC ls 15) ≤ (2 * code + x.toNat) * 2 ^ (lngC ls 15 - (n + 1))
        · rw [if_pos hf] at h; cases h
        · rw [if_neg hf] at h
          obtain ⟨c, e1, t1, s1⟩ := ih _ _ _ h
          refine ⟨x :: c, by rw [e1]; rfl, fun t ht => ?_, fun k hk hm => ?_⟩
          · show symGo ls (f + 1) n code (x :: (c ++ t)) = _
            rw [symGo, if_neg hin, if_neg hf]
            exact t1 t ht
          · cases k with
            | zero => rfl
            | succ k =>
              show symGo ls (f + 1) n code (x :: c.take k) = _
              rw [symGo, if_neg hin, if_neg hf]
              simp at hk hm
              exact s1 k hk (by omega)
theorem rd_sym (ls : List Nat) : Rd (fun b => symT ls b) := rd_symGo _ _ _ _
theorem rd_mat (dl : List Nat) (M : Nat) (out : List UInt8) (s : Nat) : Rd (fun b => matT dl M out s b) := by
  show Rd (fun b => match numT b (lenB s).2 with
    | .error e => .error e
    | .ok (x, b1) => match symT dl b1 with
      | .error e => .error e
      | .ok (t, b2) => if 29 < t then .error 4 else match numT b2 (disB t).2 with
        | .error e => .error e
        | .ok (y, b3) => if out.length < (disB t).1 + y then .error 4 else if M < out.length + ((lenB s).1 + x) then .error 3 else .ok (copyB out ((lenB s).1 + x) ((disB t).1 + y), b3))
  refine Rd.of (g := fun b => numT b (lenB s).2) (h := fun x b1 => match symT dl b1 with
      | .error e => .error e
      | .ok (t, b2) => if 29 < t then .error 4 else match numT b2 (disB t).2 with
        | .error e => .error e
        | .ok (y, b3) => if out.length < (disB t).1 + y then .error 4 else if M < out.length + ((lenB s).1 + x) then .error 3 else .ok (copyB out ((lenB s).1 + x) ((disB t).1 + y), b3)) (fun b e he => by simp only [he]) (fun b x b1 he => by simp only [he]) (rd_num _) fun x => ?_
  refine Rd.of (g := fun b1 => symT dl b1) (h := fun t b2 => if 29 < t then .error 4 else match numT b2 (disB t).2 with
        | .error e => .error e
        | .ok (y, b3) => if out.length < (disB t).1 + y then .error 4 else if M < out.length + ((lenB s).1 + x) then .error 3 else .ok (copyB out ((lenB s).1 + x) ((disB t).1 + y), b3)) (fun b e he => by simp only [he]) (fun b x b1 he => by simp only [he]) (rd_sym _) fun t => ?_
  refine Rd.ite (fun _ => Rd.err 4) fun _ => ?_
  refine Rd.of (g := fun b2 => numT b2 (disB t).2) (h := fun y b3 => if out.length < (disB t).1 + y then .error 4 else if M < out.length + ((lenB s).1 + x) then .error 3 else .ok (copyB out ((lenB s).1 + x) ((disB t).1 + y), b3)) (fun b e he => by simp only [he]) (fun b x b1 he => by simp only [he]) (rd_num _) fun y => ?_
  refine Rd.ite (fun _ => Rd.err 4) fun _ => ?_
  exact Rd.ite (fun _ => Rd.err 3) fun _ => Rd.pure _
theorem rd_datGo (ll dl : List Nat) (M f : Nat) (out : List UInt8) : Rd (fun b => datGo ll dl M f out b) := by
  induction f generalizing out with
  | zero => exact Rd.err 0
  | succ f ih =>
    show Rd (fun b => match symT ll b with
      | .error e => .error e
      | .ok (s, b1) =>
        if s < 256 then (if M ≤ out.length then .error 3 else datGo ll dl M f (out ++ [UInt8.ofNat s]) b1)
        else if s = 256 then .ok (out, b1)
        else if 285 < s then .error 4
        else match matT dl M out s b1 with
          | .error e => .error e
          | .ok (o, b2) => datGo ll dl M f o b2)
    refine Rd.of (g := fun b => symT ll b) (h := fun s b1 => if s < 256 then (if M ≤ out.length then .error 3 else datGo ll dl M f (out ++ [UInt8.ofNat s]) b1)
        else if s = 256 then .ok (out, b1)
        else if 285 < s then .error 4
        else match matT dl M out s b1 with
          | .error e => .error e
          | .ok (o, b2) => datGo ll dl M f o b2) (fun b e he => by simp only [he]) (fun b x b1 he => by simp only [he]) (rd_sym _) fun s => ?_
    refine Rd.ite (fun _ => ?_) fun _ => ?_
    · exact Rd.ite (fun _ => Rd.err 3) fun _ => ih _
    refine Rd.ite (fun _ => Rd.pure _) fun _ => ?_
    refine Rd.ite (fun _ => Rd.err 4) fun _ => ?_
    exact Rd.of (g := fun b1 => matT dl M out s b1) (h := fun o b2 => datGo ll dl M f o b2) (fun b e he => by simp only [he]) (fun b x b1 he => by simp only [he]) (rd_mat _ _ _ _) fun o => ih o
/-- More fuel than bits changes nothing. -/
theorem datGo_fuel (ll dl : List Nat) (M : Nat) (f f' : Nat) (out : List UInt8) (b : List Bool) (h : b.length < f) (h' : b.length < f') : datGo ll dl M f out b = datGo ll dl M f' out b := by
  induction f generalizing f' out b with
  | zero => omega
  | succ f ih =>
    obtain ⟨g, rfl⟩ : ∃ g, f' = g + 1 := ⟨f' - 1, by omega⟩
    unfold datGo
    cases hs : symT ll b with
    | error e => rfl
    | ok sb =>
      obtain ⟨s, b1⟩ := sb
      have hl := symT_len hs
      simp only
      split
      · split
        · rfl
        · exact ih _ _ _ (by omega) (by omega)
      · split
        · rfl
        · split
          · rfl
          · cases hm : matT dl M out s b1 with
            | error e => rfl
            | ok ob =>
              obtain ⟨o, b2⟩ := ob
              have := matT_len hm
              exact ih _ _ _ (by omega) (by omega)
theorem rd_dat (ll dl : List Nat) (M : Nat) (out : List UInt8) : Rd (fun b => datT ll dl M out b) := by
  intro b o b' h
  obtain ⟨c, e, t1, s1⟩ := rd_datGo ll dl M (b.length + 1) out b o b' h
  refine ⟨c, e, fun t ht => ?_, fun k hk hm => ?_⟩
  · have h1 := rd_datGo ll dl M (b.length + (c ++ t).length + 1) out b o b' (by rw [← h]; exact datGo_fuel _ _ _ _ _ _ _ (by omega) (by omega))
    obtain ⟨c', e', t1', _⟩ := h1
    have hc : c' = c := List.append_cancel_right (e'.symm.trans e)
    subst hc
    rw [← t1' t ht]
    exact datGo_fuel _ _ _ _ _ _ _ (by omega) (by omega)
  · rw [← s1 k hk hm]
    have : (c.take k).length < b.length + 1 := by rw [e]; simp; omega
    exact datGo_fuel _ _ _ _ _ _ _ (by omega) this
theorem rd_cl (r : List Nat) (c : List Nat) : Rd (fun b => clGo r c b) := by
  induction r generalizing c with
  | nil => exact Rd.pure _
  | cons o r ih =>
    show Rd (fun b => match numT b 3 with | .error e => .error e | .ok (x, b1) => clGo r (c.set o x) b1)
    exact Rd.of (g := fun b => numT b 3) (h := fun x b1 => clGo r (c.set o x) b1) (fun b e he => by simp only [he]) (fun b x b1 he => by simp only [he]) (rd_num _) fun x => ih _
theorem rd_lstGo (cl : List Nat) (n f : Nat) (acc : List Nat) : Rd (fun b => lstGo cl n f acc b) := by
  induction f generalizing acc with
  | zero => exact Rd.err 0
  | succ f ih =>
    show Rd (fun b => if n ≤ acc.length then (if acc.length = n then .ok (acc, b) else .error 4)
      else match symT cl b with
      | .error e => .error e
      | .ok (s, b1) =>
        if s = 16 then (if acc.length = 0 then .error 4 else match numT b1 2 with | .error e => .error e | .ok (x, b2) => lstGo cl n f (acc ++ List.replicate (3 + x) (acc.getD (acc.length - 1) 0)) b2)
        else if s = 17 then (match numT b1 3 with | .error e => .error e | .ok (x, b2) => lstGo cl n f (acc ++ List.replicate (3 + x) 0) b2)
        else if s = 18 then (match numT b1 7 with | .error e => .error e | .ok (x, b2) => lstGo cl n f (acc ++ List.replicate (11 + x) 0) b2)
        else lstGo cl n f (acc ++ [s]) b1)
    refine Rd.ite (fun _ => ?_) fun _ => ?_
    · exact Rd.ite (fun _ => Rd.pure _) fun _ => Rd.err 4
    refine Rd.of (g := fun b => symT cl b) (h := fun s b1 => if s = 16 then (if acc.length = 0 then .error 4 else match numT b1 2 with | .error e => .error e | .ok (x, b2) => lstGo cl n f (acc ++ List.replicate (3 + x) (acc.getD (acc.length - 1) 0)) b2)
        else if s = 17 then (match numT b1 3 with | .error e => .error e | .ok (x, b2) => lstGo cl n f (acc ++ List.replicate (3 + x) 0) b2)
        else if s = 18 then (match numT b1 7 with | .error e => .error e | .ok (x, b2) => lstGo cl n f (acc ++ List.replicate (11 + x) 0) b2)
        else lstGo cl n f (acc ++ [s]) b1) (fun b e he => by simp only [he]) (fun b x b1 he => by simp only [he]) (rd_sym _) fun s => ?_
    refine Rd.ite (fun _ => ?_) fun _ => ?_
    · refine Rd.ite (fun _ => Rd.err 4) fun _ => ?_
      exact Rd.of (g := fun b => numT b 2) (h := fun x b2 => lstGo cl n f (acc ++ List.replicate (3 + x) (acc.getD (acc.length - 1) 0)) b2) (fun b e he => by simp only [he]) (fun b x b1 he => by simp only [he]) (rd_num _) fun x => ih _
    refine Rd.ite (fun _ => ?_) fun _ => ?_
    · exact Rd.of (g := fun b => numT b 3) (h := fun x b2 => lstGo cl n f (acc ++ List.replicate (3 + x) 0) b2) (fun b e he => by simp only [he]) (fun b x b1 he => by simp only [he]) (rd_num _) fun x => ih _
    refine Rd.ite (fun _ => ?_) fun _ => ?_
    · exact Rd.of (g := fun b => numT b 7) (h := fun x b2 => lstGo cl n f (acc ++ List.replicate (11 + x) 0) b2) (fun b e he => by simp only [he]) (fun b x b1 he => by simp only [he]) (rd_num _) fun x => ih _
    · exact ih _
theorem rd_dyn : Rd (fun b => dynT b) := by
  have h4 : ∀ h d cl, Rd (fun b => dyn4 h d cl b) := by
    intro h d cl
    show Rd (fun b => if sumC cl ≠ 32768 then .error 4 else
      match lstT cl (h + 257 + d + 1) b with
      | .error e => .error e
      | .ok (all, b5) =>
        if sumC (all.take (h + 257)) ≠ 32768 ∨ all.getD 256 0 = 0 then .error 4
        else if disR (all.drop (h + 257)) then .ok ((all.take (h + 257), all.drop (h + 257)), b5)
        else .error 4)
    refine Rd.ite (fun _ => Rd.err 4) fun _ => ?_
    refine Rd.of (g := fun b => lstT cl (h + 257 + d + 1) b) (h := fun all b5 => if sumC (all.take (h + 257)) ≠ 32768 ∨ all.getD 256 0 = 0 then .error 4
        else if disR (all.drop (h + 257)) then .ok ((all.take (h + 257), all.drop (h + 257)), b5)
        else .error 4) (fun b e he => by simp only [he]) (fun b x b1 he => by simp only [he]) (rd_lstGo _ _ _ _) fun all => ?_
    refine Rd.ite (fun _ => Rd.err 4) fun _ => ?_
    exact Rd.ite (fun _ => Rd.pure _) fun _ => Rd.err 4
  have h3 : ∀ h d k, Rd (fun b => dyn3 h d k b) := by
    intro h d k
    show Rd (fun b => if 29 < h ∨ 29 < d then .error 4 else
      match clGo (ordC.take (k + 4)) (List.replicate 19 0) b with
      | .error e => .error e
      | .ok (cl, b4) => dyn4 h d cl b4)
    refine Rd.ite (fun _ => Rd.err 4) fun _ => ?_
    exact Rd.of (g := fun b => clGo (ordC.take (k + 4)) (List.replicate 19 0) b) (h := fun cl b4 => dyn4 h d cl b4) (fun b e he => by simp only [he]) (fun b x b1 he => by simp only [he]) (rd_cl _ _) fun cl => h4 _ _ _
  have h2 : ∀ h d, Rd (fun b => dyn2 h d b) := fun h d => Rd.of (g := fun b => numT b 4) (h := fun k b3 => dyn3 h d k b3) (fun b e he => by unfold dyn2; simp only [he]) (fun b x b1 he => by unfold dyn2; simp only [he]) (rd_num 4) fun k => h3 h d k
  have h1 : ∀ h, Rd (fun b => dyn1 h b) := fun h => Rd.of (g := fun b => numT b 5) (h := fun d b2 => dyn2 h d b2) (fun b e he => by unfold dyn1; simp only [he]) (fun b x b1 he => by unfold dyn1; simp only [he]) (rd_num 5) fun d => h2 h d
  exact Rd.of (g := fun b => numT b 5) (h := fun h b1 => dyn1 h b1) (fun b e he => by rw [dyn0]; simp only [he]) (fun b x b1 he => by rw [dyn0]; simp only [he]) (rd_num 5) fun h => h1 h
/-- A stored block from a byte's beginning on. -/
def stoG (M : Nat) (out : List UInt8) (b : List Bool) : Except Nat (List UInt8 × List Bool) :=
  match numT b 32 with
  | .error e => .error e
  | .ok (x, b1) =>
    if x % 65536 + x / 65536 ≠ 65535 then .error 4
    else if b1.length < 8 * (x % 65536) then .error 5
    else if M < out.length + x % 65536 then .error 3
    else .ok (out ++ pack (b1.take (8 * (x % 65536))), b1.drop (8 * (x % 65536)))
theorem rd_stoG (M : Nat) (out : List UInt8) : Rd (fun b => stoG M out b) := by
  unfold stoG
  refine Rd.of (g := fun b => numT b 32) (h := fun x b1 => if x % 65536 + x / 65536 ≠ 65535 then .error 4
      else if b1.length < 8 * (x % 65536) then .error 5
      else if M < out.length + x % 65536 then .error 3
      else .ok (out ++ pack (b1.take (8 * (x % 65536))), b1.drop (8 * (x % 65536)))) (fun b e he => by simp only [he]) (fun b x b1 he => by simp only [he]) (rd_num 32) fun x => ?_
  refine Rd.ite (fun _ => Rd.err 4) fun _ => ?_
  intro b y b' h
  simp only at h
  split at h
  · cases h
  · rename_i hl
    split at h
    · cases h
    · rename_i hM
      cases h
      have htl : (b.take (8 * (x % 65536))).length = 8 * (x % 65536) := by simp; omega
      refine ⟨b.take (8 * (x % 65536)), by rw [List.take_append_drop], fun t _ => ?_, fun k hk _ => ?_⟩
      · simp only
        rw [if_neg (by simp; omega), if_neg hM, List.take_left' htl, List.drop_left' htl]
      · simp only
        rw [if_pos (by simp at hk ⊢; omega)]
theorem rd_sto (M : Nat) (out : List UInt8) : Rd (fun b => stoT M out b) := by
  intro b o b' h
  have hdef : ∀ b, stoT M out b = stoG M out (b.drop (b.length % 8)) := fun _ => rfl
  have hg := rd_stoG M out
  simp only [hdef] at h
  obtain ⟨c, e, t1, s1⟩ := hg _ _ _ h
  have hr : (b.take (b.length % 8)).length = b.length % 8 := by rw [List.length_take]; have := Nat.mod_le b.length 8; omega
  have hbe : b = b.take (b.length % 8) ++ c ++ b' := by
    conv => lhs; rw [← List.take_append_drop (b.length % 8) b]
    rw [e, List.append_assoc]
  have hlen : b.length = b.length % 8 + c.length + b'.length := by
    have := congrArg List.length hbe
    simp only [List.length_append, hr] at this
    exact this
  generalize hR : b.take (b.length % 8) = R at *
  refine ⟨R ++ c, hbe, fun t ht => ?_, fun k hk hm => ?_⟩
  · simp only [hdef]
    have hl : (R ++ c ++ t).length % 8 = R.length := by simp only [List.length_append]; omega
    rw [hl, List.append_assoc, List.drop_left]
    exact t1 t ht
  · simp only [hdef]
    simp only [List.length_append] at hk
    have hkR : R.length ≤ k ∨ k < R.length := by omega
    rcases hkR with hkR | hkR
    · have e2 : (R ++ c).take k = R ++ c.take (k - R.length) := by rw [List.take_append, List.take_of_length_le hkR]
      have hl : (R ++ c.take (k - R.length)).length % 8 = R.length := by simp only [List.length_append, List.length_take]; omega
      rw [e2, hl, List.drop_left]
      refine s1 (k - R.length) (by omega) ?_
      rw [e, List.length_append]
      omega
    · exfalso
      omega
theorem rd_blk (M : Nat) (out : List UInt8) : Rd (fun b => match blkT M out b with | .error e => .error e | .ok (l, o, b3) => .ok ((l, o), b3)) := by
  have hk : ∀ k, Rd (fun b2 => if k = 0 then stoT M out b2 else if k = 1 then datT fixL fixD M out b2 else if k = 2 then (match dynT b2 with | .error e => .error e | .ok ((ll, dl), b3) => datT ll dl M out b3) else .error 4) := by
    intro k
    refine Rd.ite (fun _ => rd_sto _ _) fun _ => Rd.ite (fun _ => rd_dat _ _ _ _) fun _ => Rd.ite (fun _ => ?_) fun _ => Rd.err 4
    exact Rd.of (g := fun b => dynT b) (h := fun x b3 => datT x.1 x.2 M out b3) (fun b e he => by simp only [he]) (fun b x b1 he => by simp only [he]) rd_dyn fun x => rd_dat _ _ _ _
  have h1 : Rd (fun b => match numT b 1 with
    | .error e => .error e
    | .ok (l, b1) => match numT b1 2 with
      | .error e => .error e
      | .ok (k, b2) =>
        match (if k = 0 then stoT M out b2 else if k = 1 then datT fixL fixD M out b2 else if k = 2 then (match dynT b2 with | .error e => .error e | .ok ((ll, dl), b3) => datT ll dl M out b3) else .error 4) with
        | .error e => .error e
        | .ok (o, b3) => .ok ((l == 1, o), b3)) :=
    Rd.of (g := fun b => numT b 1) (h := fun l b1 => match numT b1 2 with
      | .error e => .error e
      | .ok (k, b2) =>
        match (if k = 0 then stoT M out b2 else if k = 1 then datT fixL fixD M out b2 else if k = 2 then (match dynT b2 with | .error e => .error e | .ok ((ll, dl), b3) => datT ll dl M out b3) else .error 4) with
        | .error e => .error e
        | .ok (o, b3) => .ok ((l == 1, o), b3)) (fun b e he => by simp only [he]) (fun b x b1 he => by simp only [he]) (rd_num 1) fun l =>
    Rd.of (g := fun b1 => numT b1 2) (h := fun k b2 => match (if k = 0 then stoT M out b2 else if k = 1 then datT fixL fixD M out b2 else if k = 2 then (match dynT b2 with | .error e => .error e | .ok ((ll, dl), b3) => datT ll dl M out b3) else .error 4) with
        | .error e => .error e
        | .ok (o, b3) => .ok ((l == 1, o), b3)) (fun b e he => by simp only [he]) (fun b x b1 he => by simp only [he]) (rd_num 2) fun k =>
    Rd.of (g := fun b2 => if k = 0 then stoT M out b2 else if k = 1 then datT fixL fixD M out b2 else if k = 2 then (match dynT b2 with | .error e => .error e | .ok ((ll, dl), b3) => datT ll dl M out b3) else .error 4) (h := fun o b3 => .ok ((l == 1, o), b3)) (fun b e he => by simp only [he]) (fun b x b1 he => by simp only [he]) (hk k) fun o => Rd.pure _
  have e : (fun b => match blkT M out b with | .error e => (.error e : Except Nat ((Bool × List UInt8) × List Bool)) | .ok (l, o, b3) => .ok ((l, o), b3)) = (fun b => match numT b 1 with
    | .error e => .error e
    | .ok (l, b1) => match numT b1 2 with
      | .error e => .error e
      | .ok (k, b2) =>
        match (if k = 0 then stoT M out b2 else if k = 1 then datT fixL fixD M out b2 else if k = 2 then (match dynT b2 with | .error e => .error e | .ok ((ll, dl), b3) => datT ll dl M out b3) else .error 4) with
        | .error e => .error e
        | .ok (o, b3) => .ok ((l == 1, o), b3)) := by
    funext b
    unfold blkT
    cases numT b 1 with
    | error e => rfl
    | ok lb =>
      obtain ⟨l, b1⟩ := lb
      simp only
      cases numT b1 2 with
      | error e => rfl
      | ok kb =>
        obtain ⟨k, b2⟩ := kb
        simp only
        cases (if k = 0 then stoT M out b2 else if k = 1 then datT fixL fixD M out b2 else if k = 2 then (match dynT b2 with | .error e => .error e | .ok ((ll, dl), b3) => datT ll dl M out b3) else .error 4) with
        | error e => rfl
        | ok ob => rfl
  rw [e]
  exact h1
end Go.Proofs.Ytkbelkdephfhpaa
