/-
  Plain laws: limits, fuel, and what they say of a stream.
-/
import Derived.Test.YtkbelkdephfhpaaK9
namespace Go.Proofs.Ytkbelkdephfhpaa
open Go.RowKit

theorem rd_infGo (M f : Nat) (out : List UInt8) : Rd (fun b => infGo M f out b) := by
  induction f generalizing out with
  | zero => exact Rd.err 0
  | succ f ih =>
    refine Rd.of (g := fun b => match blkT M out b with | .error e => .error e | .ok (l, o, b3) => .ok ((l, o), b3)) (h := fun x b1 => if x.1 = true then .ok (x.2, b1) else infGo M f x.2 b1) (fun b e he => ?_) (fun b x b1 he => ?_) (rd_blk M out) fun x => ?_
    · unfold infGo
      cases hb : blkT M out b with
      | error e' => rw [hb] at he; cases he; rfl
      | ok lob => rw [hb] at he; cases he
    · cases hb : blkT M out b with
      | error e' => rw [hb] at he; cases he
      | ok lob =>
        obtain ⟨l, o, b3⟩ := lob
        rw [hb] at he
        cases he
        show infGo M (f + 1) out b = if l = true then .ok (o, b1) else infGo M f o b1
        conv => lhs; unfold infGo
        rw [hb]
    · exact Rd.ite (fun _ => Rd.pure _) fun _ => ih _
theorem infGo_fuel (M f f' : Nat) (out : List UInt8) (b : List Bool) (ho : out.length ≤ M) (h : b.length < f) (h' : b.length < f') : infGo M f out b = infGo M f' out b := by
  induction f generalizing f' out b with
  | zero => omega
  | succ f ih =>
    obtain ⟨g, rfl⟩ : ∃ g, f' = g + 1 := ⟨f' - 1, by omega⟩
    unfold infGo
    cases hs : blkT M out b with
    | error e => rfl
    | ok sb =>
      obtain ⟨l, o, b1⟩ := sb
      have hl := blkT_len ho hs
      simp only
      split
      · rfl
      · exact ih _ _ _ hl.2 (by omega) (by omega)
/-- A limit decides just by the length of the output. -/
def Lim (G : Nat → List UInt8 → List Bool → Except Nat (List UInt8 × List Bool)) : Prop := ∀ M out b o b', G M out b = .ok (o, b') →
  out.length ≤ o.length ∧ (∀ M', o.length ≤ M' → G M' out b = .ok (o, b')) ∧ (∀ M', out.length ≤ M' → M' < o.length → G M' out b = .error 3)
theorem copyB_len (n : Nat) (out : List UInt8) (d : Nat) : (copyB out n d).length = out.length + n := by
  induction n generalizing out with
  | zero => rfl
  | succ n ih => rw [copyB, ih]; simp; omega
theorem lim_mat (dl : List Nat) (s : Nat) : Lim (fun M out b => matT dl M out s b) := by
  intro M out b o b' h
  simp only at h
  unfold matT at h
  split at h
  · cases h
  · rename_i x b1 h1
    split at h
    · cases h
    · rename_i t b2 h2
      split at h
      · cases h
      · rename_i ht
        split at h
        · cases h
        · rename_i y b3 h3
          split at h
          · cases h
          · rename_i hd
            split at h
            · cases h
            · rename_i hM
              cases h
              have key : ∀ M', matT dl M' out s b = if M' < out.length + ((lenB s).1 + x) then .error 3 else .ok (copyB out ((lenB s).1 + x) ((disB t).1 + y), b') := by
                intro M'
                unfold matT
                rw [h1]
                simp only
                rw [h2]
                simp only
                rw [if_neg ht, h3]
                simp only
                rw [if_neg hd]
              rw [copyB_len]
              refine ⟨by omega, fun M' hM' => ?_, fun M' _ hM' => ?_⟩
              · simp only; rw [key, if_neg (by omega)]
              · simp only; rw [key, if_pos (by omega)]
theorem lim_datGo (ll dl : List Nat) (f : Nat) : Lim (fun M out b => datGo ll dl M f out b) := by
  induction f with
  | zero => intro M out b o b' h; cases h
  | succ f ih =>
    intro M out b o b' h
    simp only at h
    unfold datGo at h
    cases hs : symT ll b with
    | error e => rw [hs] at h; cases h
    | ok sb =>
      obtain ⟨s, b1⟩ := sb
      rw [hs] at h
      simp only at h
      have hun : ∀ M', datGo ll dl M' (f + 1) out b = (if s < 256 then (if M' ≤ out.length then .error 3 else datGo ll dl M' f (out ++ [UInt8.ofNat s]) b1)
        else if s = 256 then .ok (out, b1)
        else if 285 < s then .error 4
        else match matT dl M' out s b1 with
          | .error e => .error e
          | .ok (o, b2) => datGo ll dl M' f o b2) := by
        intro M'
        conv => lhs; unfold datGo
        rw [hs]
        rfl
      simp only [hun]
      by_cases c1 : s < 256
      · rw [if_pos c1] at h
        simp only [if_pos c1]
        by_cases c2 : M ≤ out.length
        · rw [if_pos c2] at h; cases h
        · rw [if_neg c2] at h
          obtain ⟨i1, i2, i3⟩ := ih _ _ _ _ _ h
          simp at i1
          refine ⟨by omega, fun M' hM' => ?_, fun M' h1 h2 => ?_⟩
          · rw [if_neg (by omega)]; exact i2 M' hM'
          · by_cases c3 : M' ≤ out.length
            · rw [if_pos c3]
            · rw [if_neg c3]; exact i3 M' (by simp; omega) h2
      · rw [if_neg c1] at h
        simp only [if_neg c1]
        by_cases c2 : s = 256
        · rw [if_pos c2] at h
          cases h
          simp only [if_pos c2]
          exact ⟨Nat.le_refl _, fun _ _ => trivial, fun M' h1 h2 => by omega⟩
        · rw [if_neg c2] at h
          simp only [if_neg c2]
          by_cases c3 : 285 < s
          · rw [if_pos c3] at h; cases h
          · rw [if_neg c3] at h
            simp only [if_neg c3]
            cases hm : matT dl M out s b1 with
            | error e => rw [hm] at h; cases h
            | ok ob =>
              obtain ⟨o1, b2⟩ := ob
              rw [hm] at h
              simp only at h
              obtain ⟨m1, m2, m3⟩ := lim_mat dl s M out b1 o1 b2 hm
              obtain ⟨i1, i2, i3⟩ := ih _ _ _ _ _ h
              simp only at m2 m3 i2 i3
              refine ⟨by omega, fun M' hM' => ?_, fun M' h1 h2 => ?_⟩
              · rw [m2 M' (by omega)]; exact i2 M' hM'
              · by_cases c4 : M' < o1.length
                · rw [m3 M' h1 c4]
                · rw [m2 M' (by omega)]; exact i3 M' (by omega) h2
theorem lim_dat (ll dl : List Nat) : Lim (fun M out b => datT ll dl M out b) := fun M out b o b' h => lim_datGo ll dl (b.length + 1) M out b o b' h
theorem lim_sto : Lim (fun M out b => stoT M out b) := by
  intro M out b o b' h
  simp only at h
  unfold stoT at h
  split at h
  · cases h
  · rename_i x b1 h1
    split at h
    · cases h
    · rename_i h2
      split at h
      · cases h
      · rename_i h3
        split at h
        · cases h
        · rename_i h4
          cases h
          have key : ∀ M', stoT M' out b = if M' < out.length + x % 65536 then .error 3 else .ok (out ++ pack (b1.take (8 * (x % 65536))), b1.drop (8 * (x % 65536))) := by
            intro M'
            unfold stoT
            rw [h1]
            simp only
            rw [if_neg h2, if_neg h3]
          have hl : (out ++ pack (b1.take (8 * (x % 65536)))).length = out.length + x % 65536 := by rw [List.length_append, pack_length]; simp; omega
          refine ⟨by omega, fun M' hM' => ?_, fun M' _ hM' => ?_⟩
          · simp only; rw [key, if_neg (by omega)]
          · simp only; rw [key, if_pos (by omega)]
/-- What follows a block's head. -/
def kinT (k M : Nat) (out : List UInt8) (b2 : List Bool) : Except Nat (List UInt8 × List Bool) :=
  if k = 0 then stoT M out b2 else if k = 1 then datT fixL fixD M out b2 else if k = 2 then (match dynT b2 with | .error e => .error e | .ok ((ll, dl), b3) => datT ll dl M out b3) else .error 4
theorem blk_kin {M : Nat} {out : List UInt8} {b b1 b2 : List Bool} {l1 k : Nat} (h1 : numT b 1 = .ok (l1, b1)) (h2 : numT b1 2 = .ok (k, b2)) :
    blkT M out b = match kinT k M out b2 with | .error e => .error e | .ok (o, b3) => .ok (l1 == 1, o, b3) := by
  unfold blkT
  rw [h1]
  simp only
  rw [h2]
  simp only
  unfold kinT
  by_cases c0 : k = 0
  · rw [if_pos c0, if_pos c0]
    cases stoT M out b2 <;> rfl
  · rw [if_neg c0, if_neg c0]
    by_cases c1 : k = 1
    · rw [if_pos c1, if_pos c1]
      cases datT fixL fixD M out b2 <;> rfl
    · rw [if_neg c1, if_neg c1]
      by_cases c2 : k = 2
      · rw [if_pos c2, if_pos c2]
        cases dynT b2 with
        | error e => rfl
        | ok x => obtain ⟨⟨ll, dl⟩, b3⟩ := x; simp only; cases datT ll dl M out b3 <;> rfl
      · rw [if_neg c2, if_neg c2]
theorem lim_kin (k : Nat) : Lim (fun M out b2 => kinT k M out b2) := by
  intro M out b o b' h
  simp only at h ⊢
  unfold kinT at h ⊢
  by_cases c0 : k = 0
  · simp only [if_pos c0] at h ⊢; exact lim_sto M out b o b' h
  · simp only [if_neg c0] at h ⊢
    by_cases c1 : k = 1
    · simp only [if_pos c1] at h ⊢; exact lim_dat fixL fixD M out b o b' h
    · simp only [if_neg c1] at h ⊢
      by_cases c2 : k = 2
      · simp only [if_pos c2] at h ⊢
        cases hd : dynT b with
        | error e => rw [hd] at h; cases h
        | ok x => obtain ⟨⟨ll, dl⟩, b3⟩ := x; rw [hd] at h; exact lim_dat ll dl M out b3 o b' h
      · simp only [if_neg c2] at h; cases h
theorem lim_blk (M : Nat) (out : List UInt8) (b : List Bool) (l : Bool) (o : List UInt8) (b' : List Bool) (h : blkT M out b = .ok (l, o, b')) :
    out.length ≤ o.length ∧ (∀ M', o.length ≤ M' → blkT M' out b = .ok (l, o, b')) ∧ (∀ M', out.length ≤ M' → M' < o.length → blkT M' out b = .error 3) := by
  cases h1 : numT b 1 with
  | error e => unfold blkT at h; rw [h1] at h; cases h
  | ok lb =>
    obtain ⟨l1, b1⟩ := lb
    cases h2 : numT b1 2 with
    | error e => unfold blkT at h; rw [h1] at h; simp only at h; rw [h2] at h; cases h
    | ok kb =>
      obtain ⟨k, b2⟩ := kb
      rw [blk_kin h1 h2] at h
      cases h3 : kinT k M out b2 with
      | error e => rw [h3] at h; cases h
      | ok ob =>
        obtain ⟨o1, b3⟩ := ob
        rw [h3] at h
        cases h
        obtain ⟨m1, m2, m3⟩ := lim_kin k M out b2 o b' h3
        simp only at m2 m3
        refine ⟨m1, fun M' hM' => ?_, fun M' g1 g2 => ?_⟩
        · rw [blk_kin h1 h2, m2 M' hM']
        · rw [blk_kin h1 h2, m3 M' g1 g2]
theorem lim_infGo (f : Nat) : Lim (fun M out b => infGo M f out b) := by
  induction f with
  | zero => intro M out b o b' h; cases h
  | succ f ih =>
    intro M out b o b' h
    simp only at h
    unfold infGo at h
    cases hb : blkT M out b with
    | error e => rw [hb] at h; cases h
    | ok lob =>
      obtain ⟨l, o1, b1⟩ := lob
      rw [hb] at h
      simp only at h
      obtain ⟨m1, m2, m3⟩ := lim_blk M out b l o1 b1 hb
      have hun : ∀ M' r, blkT M' out b = r → infGo M' (f + 1) out b = match r with | .error e => .error e | .ok (last, o, b1) => if last then .ok (o, b1) else infGo M' f o b1 := by
        intro M' r hr
        conv => lhs; unfold infGo
        rw [hr]
        cases r <;> rfl
      cases l with
      | true =>
        simp only [if_true] at h
        cases h
        refine ⟨m1, fun M' hM' => ?_, fun M' g1 g2 => ?_⟩
        · simp only; rw [hun M' _ (m2 M' hM')]; rfl
        · simp only; rw [hun M' _ (m3 M' g1 g2)]
      | false =>
        simp only [Bool.false_eq_true, if_false] at h
        obtain ⟨i1, i2, i3⟩ := ih _ _ _ _ _ h
        simp only at i2 i3
        refine ⟨by omega, fun M' hM' => ?_, fun M' g1 g2 => ?_⟩
        · simp only; rw [hun M' _ (m2 M' (by omega))]; exact i2 M' hM'
        · simp only
          by_cases c : M' < o1.length
          · rw [hun M' _ (m3 M' g1 c)]
          · rw [hun M' _ (m2 M' (by omega))]; exact i3 M' (by omega) g2
/-- What a stream says of its beginnings and of lesser limits. -/
theorem inf_cuts (M : Nat) (l : List UInt8) (o : List UInt8) (u : Nat) (h : infP M l = .ok (o, u)) :
    1 ≤ u ∧ u ≤ l.length ∧ o.length ≤ M ∧ infP o.length (l.take u) = .ok (o, u) ∧ (∀ c, c < u → infP M (l.take c) = .error 5) ∧ (∀ M', M' < o.length → infP M' l = .error 3) := by
  have hlen := infP_len h
  have hused := infP_used h
  unfold infP at h
  cases hg : infGo M (8 * l.length + 1) [] (unp l) with
  | error e => rw [hg] at h; cases h
  | ok ob =>
    obtain ⟨o1, b'⟩ := ob
    rw [hg] at h
    cases h
    have hun := unp_length l
    obtain ⟨c, e, t1, s1⟩ := rd_infGo M (8 * l.length + 1) [] (unp l) o b' hg
    have hcl : c.length + b'.length = 8 * l.length := by
      have := congrArg List.length e
      rw [hun, List.length_append] at this
      omega
    have hblt := (infGo_len M _ [] o (unp l) b' (Nat.zero_le _) hg).2
    rw [hun] at hblt
    have hc0 : 0 < c.length := by omega
    have hub : 8 * l.length - b'.length = c.length := by omega
    rw [hub] at hused ⊢
    obtain ⟨u, hu⟩ : ∃ u, u = (c.length + 7) / 8 := ⟨_, rfl⟩
    rw [← hu] at hused ⊢
    obtain ⟨l1, l2, l3⟩ := lim_infGo (8 * l.length + 1) M [] (unp l) o b' hg
    refine ⟨by omega, hused, hlen, ?_, fun k hk => ?_, fun M' hM' => ?_⟩
    · have htk : unp (l.take u) = c ++ b'.take (8 * u - c.length) := by
        rw [← unp_take, e, List.take_append, List.take_of_length_le (by omega)]
      have htl : (b'.take (8 * u - c.length)).length = 8 * u - c.length := by rw [List.length_take]; omega
      have hl2 : (l.take u).length = u := by rw [List.length_take]; omega
      -- the greater limit first, then the lesser one
      have h1 : infGo M (8 * l.length + 1) [] (c ++ b'.take (8 * u - c.length)) = .ok (o, b'.take (8 * u - c.length)) := t1 _ (by rw [htl]; omega)
      have h2 := (lim_infGo (8 * l.length + 1) M [] _ o _ h1).2.1 o.length (Nat.le_refl _)
      simp only at h2
      have h3 : infGo o.length (8 * (l.take u).length + 1) [] (unp (l.take u)) = .ok (o, b'.take (8 * u - c.length)) := by
        rw [htk, ← h2]
        exact infGo_fuel _ _ _ _ _ (Nat.zero_le _) (by rw [List.length_append, htl, hl2]; omega) (by rw [List.length_append, htl]; omega)
      unfold infP
      rw [h3, hl2]
      simp only
      rw [htl]
      congr 3
      omega
    · have hck : 8 * k < c.length := by omega
      have htk : unp (l.take k) = c.take (8 * k) := by
        rw [← unp_take, e, List.take_append_of_le_length (by omega)]
      have hl2 : (l.take k).length = k := by rw [List.length_take]; omega
      have h1 : infGo M (8 * l.length + 1) [] (c.take (8 * k)) = .error 5 := s1 (8 * k) hck (by rw [hun]; omega)
      have h3 : infGo M (8 * (l.take k).length + 1) [] (unp (l.take k)) = .error 5 := by
        rw [htk, ← h1]
        exact infGo_fuel _ _ _ _ _ (Nat.zero_le _) (by rw [hl2, List.length_take]; omega) (by rw [List.length_take]; omega)
      unfold infP
      rw [h3]
    · have h1 := l3 M' (Nat.zero_le _) hM'
      simp only at h1
      unfold infP
      rw [h1]
end Go.Proofs.Ytkbelkdephfhpaa
