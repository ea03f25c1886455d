/-
  Walks: which subpaths are open, in the program and in the reference; two lists of bools, two paths are the same.
-/
import Derived.Test.YtgjbelcnkmcbiaaDoorQg
import Derived.Test.YtgjbelcnkmcbiaaDoorQr
namespace Go.Proofs.YtgjbelcnkmcbiaaDoor
open Go.RowKit

/-- Which subpaths are open. -/
def opGo (acc : List Bool) : List Sg → List Bool
  | [] => acc
  | s :: r => opGo (if moveNext r = true then acc ++ [s.1 != 5] else acc) r
def opP (l : List Sg) : List Bool := opGo [] l
/-- The same as the reference goes. -/
def roGo (acc : List Bool) : List Sg → List Bool
  | [] => acc
  | s :: r => roGo (if s.1 = 1 then acc ++ [true] else if s.1 = 5 then acc.dropLast ++ [false] else acc) r
theorem roGo_opGo (l : List Sg) (q : Option Sg) (h : chkGo q l = 0) :
    (moveNext l = true → ∀ acc, roGo acc l = opGo acc l) ∧ (moveNext l = false → ∀ acc p, q = some p → p.1 ≠ 5 → roGo (acc ++ [true]) l = opGo acc l) := by
  induction l generalizing q with
  | nil => exact ⟨fun _ _ => rfl, fun h => by cases h⟩
  | cons s r ih =>
    have h0 := chkGo_ok h 0 (by simp)
    have h0 : SgOk q s := by simpa using h0
    have hr : chkGo (some s) r = 0 := by
      rw [chkGo_cons] at h
      by_cases he : sgErr q s = 0
      · rw [if_neg (by simp [he])] at h; exact h
      · rw [if_pos he] at h; exact absurd h he
    obtain ⟨ih1, ih2⟩ := ih (some s) hr
    have hnext : s.1 = 5 → moveNext r = true := by
      intro h5
      cases r with
      | nil => rfl
      | cons t r' =>
        have ht := chkGo_ok hr 0 (by simp)
        have ht : SgOk (some s) t := by simpa using ht
        rcases ht.ord with h1 | ⟨p, hp, hp5⟩
        · simp [moveNext, h1]
        · cases hp; exact absurd h5 hp5
    constructor
    · intro hm acc
      have hs : s.1 = 1 := by simpa [moveNext] using hm
      show roGo (if s.1 = 1 then _ else _) r = opGo (if moveNext r = true then _ else _) r
      rw [if_pos hs]
      cases hmr : moveNext r with
      | true => rw [if_pos rfl, ih1 hmr]; simp [hs]
      | false => rw [if_neg (by decide)]; exact ih2 hmr acc s rfl (by omega)
    · intro hm acc p hp hp5
      have hs : ¬ s.1 = 1 := by simpa [moveNext] using hm
      show roGo (if s.1 = 1 then _ else _) r = opGo (if moveNext r = true then _ else _) r
      rw [if_neg hs]
      by_cases h5 : s.1 = 5
      · rw [if_pos h5, List.dropLast_concat, if_pos (hnext h5), ih1 (hnext h5)]
        simp [h5]
      · rw [if_neg h5]
        cases hmr : moveNext r with
        | true => rw [if_pos rfl, ih1 hmr, show (s.1 != 5) = true by simpa using h5]
        | false => rw [if_neg (by decide)]; exact ih2 hmr acc s rfl h5
theorem ro_op {l : List Sg} (h : chkP l = 0) : roGo [] l = opP l := by
  have h2 := (chkP_ok h).2
  have hg : chkGo none l = 0 := by
    unfold chkP at h
    split at h
    · cases h
    · exact h
  refine (roGo_opGo l none hg).1 ?_ []
  cases l with
  | nil => rfl
  | cons s r =>
    rcases (h2 0 (by simp)).ord with h3 | ⟨p, h4, -⟩
    · simpa [moveNext] using h3
    · cases h4

/-- The slice value v owns a row of bools. -/
def bocells (l : List Bool) : List Value := l.map Value.bool
def BOwn (w : World) (B : Nat) (v : Value) (l : List Bool) : Prop := w.ownsRow B 4 1 v l.length (bocells l)
theorem BOwn.shape {w : World} {B : Nat} {v : Value} {l : List Bool} (h : BOwn w B v l) : ∃ x c, v = .slice x l.length c := by
  rcases h.2 with ⟨rfl, h0⟩ | ⟨g, cap, cur, rfl, _⟩
  · exact ⟨none, 0, by rw [h0]⟩
  · exact ⟨_, _, rfl⟩
theorem el_bool : Elem Tryd.prog 40 4 (.bool false) 1 1 := by
  refine ⟨Tryd.underlying40, ?_, rfl, by decide⟩
  exact info_parts (by kernel_rfl)
/-- A row of bools that reads as l. -/
def BoRow (w : World) (v : Value) (l : List Bool) : Prop :=
  ∃ x c, v = .slice x l.length c ∧ l.length ≤ c ∧ c ≤ maxLen ∧ (l ≠ [] → ∃ b off, x = some ⟨b, off, none⟩ ∧ ∀ i (h : i < l.length), w.cell? ⟨b, off + i, none⟩ = some (.bool l[i]))
theorem borow_nil (w : World) : BoRow w (.slice none 0 0) [] := ⟨none, 0, rfl, Nat.le_refl _, Nat.zero_le _, fun h => absurd rfl h⟩
theorem BOwn.row {w : World} {B : Nat} {v : Value} {l : List Bool} (h : BOwn w B v l) : BoRow w v l := by
  rcases id h.2 with ⟨rfl, h0⟩ | ⟨g, cap, cur, rfl, _, hg, hc, hm, _⟩
  · have : l = [] := List.eq_nil_of_length_eq_zero h0
    subst this
    exact borow_nil w
  · refine ⟨_, cap, rfl, hc, hm, fun _ => ⟨g, 0, rfl, fun i hi => ?_⟩⟩
    have a1 := World.ownsRow.cellAt h i (by omega)
    rw [Nat.zero_add, a1]
    simp [bocells, hi]
theorem BoRow.below {w w' : World} {v : Value} {l : List Bool} (h : BoRow w v l) (hb : Below w.heap.size w w') : BoRow w' v l := by
  obtain ⟨x, c, rfl, h1, h2, h4⟩ := h
  refine ⟨x, c, rfl, h1, h2, fun hne => ?_⟩
  obtain ⟨b, off, rfl, hc⟩ := h4 hne
  refine ⟨b, off, rfl, fun i hi => ?_⟩
  have c1 := hc i hi
  exact (hb.cell (p := ⟨b, _, none⟩) (World.block_lt_of_cell? w _ c1)).trans c1
/-- What Open answers. -/
def OpOk (l : List Sg) (e : Ending) (w' : World) : Prop :=
  if chkP l = 0 then ∃ g, e = .returned (.tuple #[g, .int .i64 0]) ∧ BoRow w' g (opP l) else e = .returned (.tuple #[.slice none 0 0, .int .i64 (chkP l)])
theorem opGo_at (acc : List Bool) (l : List Sg) (i : Nat) (hi : i < l.length) : opGo acc (l.drop i) = opGo (if moveNext (l.drop (i + 1)) = true then acc ++ [l[i].1 != 5] else acc) (l.drop (i + 1)) := by
  rw [List.drop_eq_getElem_cons hi]; rfl
theorem roGo_at (acc : List Bool) (l : List Sg) (i : Nat) (hi : i < l.length) : roGo acc (l.drop i) = roGo (if l[i].1 = 1 then acc ++ [true] else if l[i].1 = 5 then acc.dropLast ++ [false] else acc) (l.drop (i + 1)) := by
  rw [List.drop_eq_getElem_cons hi]; rfl
theorem BOwn.more {w : World} {B n : Nat} {v : Value} {l : List Bool} {b : Bool} (hn : n = l.length + 1) (h : w.ownsRow B 4 1 v n (bocells l ++ [.bool b])) : BOwn w B v (l ++ [b]) := by
  subst hn
  unfold BOwn
  rw [show bocells (l ++ [b]) = bocells l ++ [.bool b] by simp [bocells]]
  simpa using h

set_option maxRecDepth 100000 in
set_option maxHeartbeats 4000000 in
theorem open_any (v : Value) (l : List Sg) (w : World) (hr : SRow w v l) : Calls Tryd.prog 17 #[v] w fun e w' => OpOk l e w' ∧ Below w.heap.size w w' := by
  have HCK := Lib.hid (check_any v l w hr)
  obtain ⟨x, c, rfl, hc1, hc2, -⟩ := id hr
  unfold maxLen at hc2
  have HSR := Lib.hid hr
  clear hr
  by_cases h0 : chkP l = 0
  · obtain ⟨hln, hok⟩ := chkP_ok h0
    have HR : Hid (∀ e w', OpOk l e w' = ∃ g, e = .returned (.tuple #[g, .int .i64 0]) ∧ BoRow w' g (opP l)) := by
      intro e w'; unfold OpOk; rw [if_pos h0]
    rw [h0] at HCK
    clear h0 hok
    go_enter Tryd.func17, Tryd.ntmps17
    go_wp2_with fail
    refine HCK.out.mono ?_
    rintro e w1 ⟨rfl, hb1⟩
    have HB1 := Lib.hid hb1
    clear hb1 HCK
    go_wp2_with fail
    go_loopw [5, 15] (fun vo vi wr => ∃ (i : Nat) (acc : List Bool) (O : Value), O = vo ∧ vi = .int .i64 i ∧ i ≤ l.length ∧ acc.length ≤ i ∧ Hid (opP l = opGo acc (l.drop i)) ∧ Hid (BOwn wr w.heap.size O acc) ∧ Hid (Below w.heap.size w wr)) (fun _ vi _ => l.length - (intOf vi).toNat)
    case atStart => exact ⟨0, [], _, rfl, rfl, Nat.zero_le _, Nat.le_refl _, rfl, World.ownsRow_nil _ _ _ _, HB1.out⟩
    case round =>
      obtain ⟨i, acc, O, rfl, rfl, hi, hal, hop, hbo, hbw⟩ := hrel
      by_cases hlt : i < l.length
      · have hd : decide ((i : Int) < (l.length : Int)) = true := by simp; omega
        have hrw := HSR.out.below hbw.out
        obtain ⟨bb, off, rfl, hcl, -⟩ := hrw.at i hlt
        obtain ⟨q1, q2, q3, q4, q5, q6, q7⟩ := hcl i hlt
        have HAT := Lib.hid (hop.out.trans (opGo_at acc l i hlt))
        obtain ⟨⟨k, ⟨ax, ay⟩, ⟨bx, by_⟩, ⟨cx, cy⟩⟩, hm⟩ : ∃ s : Sg, l[i] = s := ⟨_, rfl⟩
        rw [hm] at q1 q2 q3 q4 q5 q6 q7 HAT
        simp only at q1 q2 q3 q4 q5 q6 q7 HAT
        have hbl := Blk.new wr 35 #[.int .i64 k, .int .i64 ax, .int .i64 ay, .int .i64 bx, .int .i64 by_, .int .i64 cx, .int .i64 cy]
        have hbx := (Below.refl wr.heap.size wr).alloc (Nat.le_refl _) (.cells #[.int .i64 k, .int .i64 ax, .int .i64 ay, .int .i64 bx, .int .i64 by_, .int .i64 cx, .int .i64 cy] 35)
        have HBZ := Lib.hid (hbw.out.alloc hbw.out.size (.cells #[.int .i64 k, .int .i64 ax, .int .i64 ay, .int .i64 bx, .int .i64 by_, .int .i64 cx, .int .i64 cy] 35))
        have HOZ : Hid (BOwn (wr.alloc (.cells #[.int .i64 k, .int .i64 ax, .int .i64 ay, .int .i64 bx, .int .i64 by_, .int .i64 cx, .int .i64 cy] 35)) w.heap.size O acc) := World.ownsRow.alloc hbo.out _
        have hmn := move_next l i hlt
        have hmax : maxLen = 9223372036854775807 := rfl
        obtain ⟨xo, co, rfl⟩ := hbo.out.shape
        clear hop hbo hm hrw
        have HCL := Lib.hid hcl
        have HSR2 := Lib.hid (HSR.out.below (hbw.out.alloc hbw.out.size (.cells #[.int .i64 k, .int .i64 ax, .int .i64 ay, .int .i64 bx, .int .i64 by_, .int .i64 cx, .int .i64 cy] 35)))
        clear hcl
        by_cases hmv : moveNext (l.drop (i + 1)) = true
        · have HZ := HAT.out
          rw [if_pos hmv] at HZ
          have HZ := Lib.hid HZ
          clear HAT
          rcases hmn.1 hmv with he | ⟨h1, hk1⟩
          · have hA : ((i : Int) == (l.length : Int) - 1) = true := by simp; omega
            clear hmn hmv
            go_upto_region 8 with fail
            generalize wr.alloc (.cells #[.int .i64 k, .int .i64 ax, .int .i64 ay, .int .i64 bx, .int .i64 by_, .int .i64 cx, .int .i64 cy] 35) = wz at *
            generalize wr.heap.size = kb at *
            have y0 : wz.cell? ⟨kb, 0, none⟩ = some (.int .i64 k) := hbl.cell 0
            clear q1 q2 q3 q4 q5 q6 q7
            go_wp2_with (refine wpList_app (P := Tryd.prog) el_bool (hown := HOZ.out) (by exact HBZ.out.size) rfl rfl rfl (m := 0) (cs := #[.bool (k != 5)]) rfl (by intro z hz; simp at hz; rw [hz]; rfl) rfl (by omega) (by omega) ?_)
            intro r cap' w5 h5 hg5 hr5
            have HB5 := Lib.hid (below_app HBZ.out HBZ.out.size HOZ.out hg5)
            have HO5 := Lib.hid (BOwn.more rfl h5)
            clear h5 hg5 hr5
            go_wp2_with fail
            go_roundw
            case rel => exact ⟨i + 1, acc ++ [k != 5], _, rfl, by go_num, by omega, by simp; omega, HZ, HO5, Lib.hid HB5.out.1⟩
            case measure => simp [intOf]; omega
          · have hA : ((i : Int) == (l.length : Int) - 1) = false := by simp; omega
            clear hmn hmv
            go_upto_region 8 with fail
            generalize wr.alloc (.cells #[.int .i64 k, .int .i64 ax, .int .i64 ay, .int .i64 bx, .int .i64 by_, .int .i64 cx, .int .i64 cy] 35) = wz at *
            generalize wr.heap.size = kb at *
            have y0 : wz.cell? ⟨kb, 0, none⟩ = some (.int .i64 k) := hbl.cell 0
            clear q1 q2 q3 q4 q5 q6 q7
            obtain ⟨b', off', hv, hcl, -⟩ := HSR2.out.at (i + 1) h1
            obtain ⟨rfl, rfl⟩ : b' = bb ∧ off' = off := by injection hv with hv; injection hv with h1 h2; exact ⟨h1.symm, h2.symm⟩
            obtain ⟨q1, -⟩ := hcl (i + 1) h1
            rw [hk1] at q1
            have hi1 : (i : Int) + 1 < (l.length : Int) := by omega
            clear hcl hv
            go_wp2_with (refine wpList_app (P := Tryd.prog) el_bool (hown := HOZ.out) (by exact HBZ.out.size) rfl rfl rfl (m := 0) (cs := #[.bool (k != 5)]) rfl (by intro z hz; simp at hz; rw [hz]; rfl) rfl (by omega) (by omega) ?_)
            intro r cap' w5 h5 hg5 hr5
            have HB5 := Lib.hid (below_app HBZ.out HBZ.out.size HOZ.out hg5)
            have HO5 := Lib.hid (BOwn.more rfl h5)
            clear h5 hg5 hr5
            go_wp2_with fail
            go_roundw
            case rel => exact ⟨i + 1, acc ++ [k != 5], _, rfl, by go_num, by omega, by simp; omega, HZ, HO5, Lib.hid HB5.out.1⟩
            case measure => simp [intOf]; omega
        · have HZ := HAT.out
          rw [if_neg hmv] at HZ
          have HZ := Lib.hid HZ
          clear HAT
          obtain ⟨h1, hk1⟩ : ∃ h : i + 1 < l.length, (l[i + 1].1 == 1) = false := by
            have hne : ¬ (i + 1 = l.length) := fun e => hmv (hmn.2 (.inl e))
            have h1 : i + 1 < l.length := by omega
            refine ⟨h1, ?_⟩
            cases e : (l[i + 1].1 == 1) with
            | false => rfl
            | true => exact absurd (hmn.2 (.inr ⟨h1, by simpa using e⟩)) hmv
          have hA : ((i : Int) == (l.length : Int) - 1) = false := by simp; omega
          clear hmn hmv
          go_upto_region 8 with fail
          generalize wr.alloc (.cells #[.int .i64 k, .int .i64 ax, .int .i64 ay, .int .i64 bx, .int .i64 by_, .int .i64 cx, .int .i64 cy] 35) = wz at *
          generalize wr.heap.size = kb at *
          have y0 : wz.cell? ⟨kb, 0, none⟩ = some (.int .i64 k) := hbl.cell 0
          clear q1 q2 q3 q4 q5 q6 q7
          obtain ⟨b', off', hv, hcl, -⟩ := HSR2.out.at (i + 1) h1
          obtain ⟨rfl, rfl⟩ : b' = bb ∧ off' = off := by injection hv with hv; injection hv with h1 h2; exact ⟨h1.symm, h2.symm⟩
          obtain ⟨q1, -⟩ := hcl (i + 1) h1
          generalize l[i + 1].1 = k1 at *
          have hi1 : (i : Int) + 1 < (l.length : Int) := by omega
          clear hcl hv
          go_wp2_with fail
          go_roundw
          case rel => exact ⟨i + 1, acc, _, rfl, by go_num, by omega, by omega, HZ, HOZ, HBZ⟩
          case measure => simp [intOf]; omega
      · have hd : decide ((i : Int) < (l.length : Int)) = false := by simp; omega
        have HZ : Hid (opP l = acc) := by show _ = _; rw [hop.out, List.drop_of_length_le (by omega)]; rfl
        obtain ⟨xo, co, rfl⟩ := hbo.out.shape
        clear hop
        go_wp2_with fail
        go_ret2
        exact ⟨by rw [HR.out]; exact ⟨_, rfl, by rw [HZ.out]; exact hbo.out.row⟩, hbw.out⟩
  · have HR : Hid (∀ e w', OpOk l e w' = (e = .returned (.tuple #[.slice none 0 0, .int .i64 (chkP l)]))) := by
      intro e w'; unfold OpOk; rw [if_neg h0]
    generalize chkP l = z at *
    have hz : (z != 0) = true := by simpa using h0
    clear HSR
    go_enter Tryd.func17, Tryd.ntmps17
    go_wp2_with fail
    refine HCK.out.mono ?_
    rintro e w1 ⟨rfl, hb1⟩
    have HB1 := Lib.hid hb1
    clear hb1 HCK
    go_wp2_with fail
    go_ret2
    exact ⟨by rw [HR.out]; rfl, HB1.out⟩
end Go.Proofs.YtgjbelcnkmcbiaaDoor
