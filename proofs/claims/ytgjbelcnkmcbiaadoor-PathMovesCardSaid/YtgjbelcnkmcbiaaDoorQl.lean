/-
  Walk: Flatten of the reference.
-/
import Derived.Test.YtgjbelcnkmcbiaaDoorQj
import Derived.Test.YtgjbelcnkmcbiaaDoorQh
import Derived.Test.YtgjbelcnkmcbiaaDoorQr
import Derived.Test.YtgjbelcnkmcbiaaDoorQrf
import Derived.OrdersHeld
import Derived.Deep.RegionHeld3
namespace Go.Proofs.YtgjbelcnkmcbiaaDoor
open Go.RowKit

/-- A row of polygons that lie from block lo on and below block b. -/
structure RAll (w : World) (B lo b : Nat) (v : Value) (ps : List (List Pt)) (us : List Value) : Prop where
  len : us.length = ps.length
  row : w.ownsRow B 37 1 v ps.length us
  one : ∀ u ∈ us, u.oneCell' = true
  pol : ∀ i (h : i < ps.length) (h' : i < us.length), QOwn w lo us[i] ps[i] ∧ ∀ k, us[i].ownBlock = some k → k < b
/-- The same, and one more polygon, the last, that may grow. -/
structure RLast (w : World) (B lo b : Nat) (v : Value) (ps : List (List Pt)) (q : List Pt) (us : List Value) (U : Value) : Prop where
  len : us.length = ps.length
  row : w.ownsRow B 37 1 v (ps.length + 1) (us ++ [U])
  one : ∀ u ∈ us, u.oneCell' = true
  pol : ∀ i (h : i < ps.length) (h' : i < us.length), QOwn w lo us[i] ps[i] ∧ ∀ k, us[i].ownBlock = some k → k < b
  cur : QOwn w b U q
theorem rall_nil {w : World} {B lo b : Nat} {v : Value} (h : w.ownsRow B 37 1 v 0 []) : RAll w B lo b v [] [] := ⟨rfl, h, by simp, fun i h => by cases h⟩
theorem RAll.g {w : World} {B lo b : Nat} {v : Value} {ps : List (List Pt)} {us : List Value} (h : RAll w B lo b v ps us) : GOwn w B b v ps :=
  ⟨us, h.len, h.row, h.one, fun i h1 h2 => ⟨lo, h.pol i h1 h2⟩⟩
theorem qown_mono {w : World} {B B' : Nat} {v : Value} {q : List Pt} (h : QOwn w B v q) (hb : B' ≤ B) : QOwn w B' v q :=
  ⟨h.1, h.2.imp id fun ⟨g, cap, cur, h1, h2, rest⟩ => ⟨g, cap, cur, h1, Nat.le_trans hb h2, rest⟩⟩
theorem RLast.all {w : World} {B lo b : Nat} {v : Value} {ps : List (List Pt)} {q : List Pt} {us : List Value} {U : Value} (h : RLast w B lo b v ps q us U) (hl : lo ≤ b) (hb : b ≤ w.heap.size) : RAll w B lo w.heap.size v (ps ++ [q]) (us ++ [U]) := by
  refine ⟨by simp [h.len], by simpa using h.row, ?_, fun i hi hi' => ?_⟩
  · intro x hx
    rcases List.mem_append.1 hx with hx | hx
    · exact h.one x hx
    · simp at hx; rw [hx]; exact h.cur.row.one
  · by_cases hp : i < ps.length
    · rw [List.getElem_append_left (by rw [h.len]; omega), List.getElem_append_left hp]
      obtain ⟨h1, h2⟩ := h.pol i hp (by rw [h.len]; omega)
      exact ⟨h1, fun k hk => Nat.lt_of_lt_of_le (h2 k hk) hb⟩
    · have hi2 : i = ps.length := by simp at hi; omega
      subst hi2
      rw [List.getElem_append_right (by rw [h.len]; omega), List.getElem_append_right (by omega)]
      simp only [h.len, Nat.sub_self, List.getElem_cons_zero]
      exact ⟨qown_mono h.cur hl, fun k hk => (World.ownsRow.lt h.cur k hk).2⟩
theorem qown_kept {w w' : World} {B : Nat} {v : Value} {q : List Pt} (h : QOwn w B v q) (hk : ∀ k cs, v.ownBlock = some k → Blk w k 32 cs → Blk w' k 32 cs) : QOwn w' B v q := by
  refine ⟨h.1, ?_⟩
  rcases h.2 with hn | ⟨g, cap, cur, rfl, hb, hg, rest⟩
  · exact .inl hn
  · exact .inr ⟨g, cap, cur, rfl, hb, hk g cur rfl hg, rest⟩
theorem RLast.of_app {w w' : World} {B lo b : Nat} {v v' : Value} {out : List (List Pt)} {us : List Value} {o : Obj} {n : Nat} (h : RAll w B lo b v out us)
    (hb : b ≤ w.heap.size) (hn : n = out.length + 1) (h5 : w'.ownsRow B 37 1 v' n (us ++ [.slice none 0 0])) (hg : (w.alloc o).grownBy w' v.ownBlock) : RLast w' B lo w'.heap.size v' out [] us (.slice none 0 0) := by
  subst hn
  have hsz : w.heap.size ≤ w'.heap.size := by have := hg.size; simp at this; omega
  refine ⟨h.len, h5, h.one, fun i hi hi' => ?_, World.ownsRow_nil _ _ _ _⟩
  obtain ⟨h1, h2⟩ := h.pol i hi hi'
  refine ⟨qown_kept h1 fun k cs hk hbk => ?_, fun k hk => Nat.lt_of_lt_of_le (h2 k hk) (Nat.le_trans hb hsz)⟩
  have hbk2 : Blk (w.alloc o) k 32 cs := hbk.alloc o
  exact (hg.block k hbk2.lt (own_blk_ne' hbk h.row.2 (by decide))).trans hbk2
theorem RLast.below {w w' : World} {B lo b : Nat} {v : Value} {ps : List (List Pt)} {q : List Pt} {us : List Value} {U : Value} (h : RLast w B lo b v ps q us U) (hb : Below w.heap.size w w') : RLast w' B lo b v ps q us U :=
  ⟨h.len, (Fr.of_below (B := 0) hb []).owns h.row (by simp), h.one, fun i h1 h2 => ⟨(Fr.of_below (B := 0) hb []).owns (h.pol i h1 h2).1 (by simp), (h.pol i h1 h2).2⟩, (Fr.of_below (B := 0) hb []).owns h.cur (by simp)⟩
theorem RLast.shape {w : World} {B lo b : Nat} {v : Value} {ps : List (List Pt)} {q : List Pt} {us : List Value} {U : Value} (h : RLast w B lo b v ps q us U) : ∃ g c, v = .slice (some ⟨g, 0, none⟩) (ps.length + 1) c ∧ B ≤ g ∧ g < w.heap.size := by
  obtain ⟨g, c, rfl, h1, h2⟩ := h.row.form (by omega)
  exact ⟨g, c, rfl, h1, h2⟩
/-- Behind a call that adds to the last polygon, and the store. -/
theorem RLast.store {w w' : World} {B lo b g c : Nat} {ps : List (List Pt)} {q q' : List Pt} {us : List Value} {U U' : Value} (h : RLast w B lo b (.slice (some ⟨g, 0, none⟩) (ps.length + 1) c) ps q us U) (hf : Fr b [32] w w') (hq : QOwn w' b U' q') :
    RLast (w'.setCell ⟨g, ps.length, none⟩ U') B lo b (.slice (some ⟨g, 0, none⟩) (ps.length + 1) c) ps q' us U' := by
  have hr := hf.owns h.row (by decide)
  have hs := World.ownsRow.stored hr ps.length U'
  have hbk : ∀ k cs, Blk w' k 32 cs → Blk (w'.setCell ⟨g, ps.length, none⟩ U') k 32 cs := fun k cs hk =>
    hk.other (fun e => own_blk_ne' hk hr.2 (by decide) (by rw [e]; rfl)) _
  refine ⟨h.len, ?_, h.one, fun i h1 h2 => ?_, qown_kept hq fun k cs _ hk => hbk k cs hk⟩
  · have := hs.1
    rw [← h.len, List.set_append_right _ _ (Nat.le_refl _)] at this
    simpa [h.len] using this
  · obtain ⟨h3, h4⟩ := h.pol i h1 h2
    exact ⟨qown_kept h3 fun k cs hk hb => hbk k cs (hf.blk_lt hb (h4 k hk)), h4⟩
/-- Behind a store into a block of a point below lo. -/
theorem RLast.putp {w : World} {B lo b kp i : Nat} {v : Value} {ps : List (List Pt)} {q : List Pt} {us : List Value} {U u : Value} {cs : Array Value} (h : RLast w B lo b v ps q us U) (hb : Blk w kp 32 cs) (hk : kp < lo) (hl : lo ≤ b) :
    RLast (w.setCell ⟨kp, i, none⟩ u) B lo b v ps q us U :=
  ⟨h.len, ((Fr.refl kp [32] w).put hb (Nat.le_refl _) (by simp) i u).owns h.row (by decide), h.one, fun j h1 h2 => ⟨ownsRow_setCell_below (h.pol j h1 h2).1 hk u, (h.pol j h1 h2).2⟩, ownsRow_setCell_below h.cur (Nat.lt_of_lt_of_le hk hl) u⟩
def outK (k : Int) (out : List (List Pt)) : List (List Pt) := if k = 1 then out ++ [[]] else out
theorem rGo_step (out ps : List (List Pt)) (q : List Pt) (p : Pt) (s : Sg) (r : List Sg) (h : outK s.1 out = ps ++ [q]) : rGo out p (s :: r) = rGo (ps ++ [rbP q p s]) (curP p s) r := by
  rw [rGo_cons]
  unfold outK at h
  by_cases hs : s.1 = 1
  · rw [if_pos hs] at h ⊢
    have h2 := List.append_inj' h rfl
    obtain ⟨rfl, h3⟩ := h2
    injection h3 with h3
    subst h3
    rw [rbP, if_pos hs]; rfl
  · rw [if_neg hs] at h ⊢
    subst h
    rw [List.dropLast_concat, List.getLast?_concat, rbP, if_neg hs]; rfl

set_option maxRecDepth 100000 in
set_option maxHeartbeats 4000000 in
theorem rflatten_any (v : Value) (l : List Sg) (w : World) (hr : SRow w v l) :
    Calls Tryd.prog 11 #[v] w fun e w' => FlOk l e w' ∧ Below w.heap.size w w' := by
  have HCK := Lib.hid (rcheck_any v l w hr)
  obtain ⟨x, c, rfl, hc1, hc2, -⟩ := id hr
  unfold maxLen at hc2
  have HSR := Lib.hid hr
  clear hr
  by_cases h0 : chkP l = 0
  · obtain ⟨hln, hok⟩ := chkP_ok h0
    have HOK := Lib.hid hok
    have HR : Hid (∀ e w', FlOk l e w' = ∃ g, e = .returned (.tuple #[g, .int .i64 0]) ∧ GRow w' g (flP l)) := by
      intro e w'; unfold FlOk; rw [if_pos h0]
    have HFL := Lib.hid (ref_fl h0)
    rw [h0] at HCK
    clear h0 hok
    go_enter Tryd.func11, Tryd.ntmps11
    go_wp2_with fail
    refine HCK.out.mono ?_
    rintro e w1 ⟨rfl, hb1⟩
    have HB1 := Lib.hid hb1
    clear hb1 HCK
    go_upto_region 6 with fail
    have HBZ := Lib.hid ((HB1.out.alloc HB1.out.size (.cells #[] 37)).alloc (by have := HB1.out.size; simp; omega) (.cells #[.int .i64 0, .int .i64 0] 32))
    have HPZ : Hid (Blk ((w1.alloc (.cells #[] 37)).alloc (.cells #[.int .i64 0, .int .i64 0] 32)) (w1.heap.size + 1) 32 #[.int .i64 0, .int .i64 0]) := Blk.new_at (by simp) _ _
    have HOZ : Hid (World.ownsRow ((w1.alloc (.cells #[] 37)).alloc (.cells #[.int .i64 0, .int .i64 0] 32)) w.heap.size 37 1 (.slice (some ⟨w1.heap.size, 0, none⟩) 0 0) 0 []) :=
      World.ownsRow.alloc (World.ownsRow_lit w1 #[] 0 HB1.out.size (by decide) rfl) _
    generalize (w1.alloc (.cells #[] 37)).alloc (.cells #[.int .i64 0, .int .i64 0] 32) = wz at *
    have hkz : w.heap.size ≤ w1.heap.size := HB1.out.size
    generalize w1.heap.size = kz at *
    clear HB1
    obtain ⟨kp, hkp⟩ : ∃ kp, kz + 1 = kp := ⟨_, rfl⟩
    have HKP : Hid (w.heap.size ≤ kp) := by show _ ≤ _; omega
    rw [hkp] at HPZ ⊢
    clear hkp hkz
    go_wp2_with fail
    go_loopw [5, 7] (fun vg vi wr => ∃ (i : Nat) (out : List (List Pt)) (px py : Int) (b : Nat) (V : Value), V = vg ∧ vi = .int .i64 i ∧ i ≤ l.length ∧ Hid (rGo [] (0, 0) l = rGo out (px, py) (l.drop i)) ∧
        Hid ((out = [] ∧ i = 0 ∧ wr.ownsRow w.heap.size 37 1 V 0 []) ∨ ∃ ps q us U, out = ps ++ [q] ∧ RLast wr w.heap.size (kp + 1) b V ps q us U ∧ q.length ≤ 16 * i + 1) ∧
        Hid (b ≤ wr.heap.size) ∧ Hid (Blk wr kp 32 #[.int .i64 px, .int .i64 py]) ∧ Hid (out ≠ [] → kp < b) ∧ Hid (near24 px ∧ near24 py) ∧ Hid (Below w.heap.size w wr) ∧ out.length ≤ i)
      (fun _ vi _ => l.length - (intOf vi).toNat)
    case atStart =>
      exact ⟨0, [], 0, 0, 0, _, rfl, rfl, Nat.zero_le _, rfl, .inl ⟨rfl, rfl, HOZ.out⟩, Nat.zero_le _, HPZ.out, fun h => absurd rfl h, ⟨⟨by decide, by decide⟩, by decide, by decide⟩, HBZ.out, Nat.le_refl _⟩
    case round =>
      obtain ⟨i, out, px, py, b, V, rfl, rfl, hi, hfl, hrow, hbs, hpt, hkb, hnp, hbw, hol⟩ := hrel
      have HRA : Hid (∃ us, RAll wr w.heap.size (kp + 1) wr.heap.size V out us) := by
        rcases hrow.out with ⟨rfl, -, h⟩ | ⟨ps, q, us, U, rfl, h, -⟩
        · exact ⟨[], rall_nil h⟩
        · exact ⟨us ++ [U], h.all (hkb.out (by simp)) hbs.out⟩
      obtain ⟨us0, hra⟩ := HRA.out
      have HRA0 := Lib.hid hra
      clear HRA hra
      obtain ⟨xg, cg, rfl⟩ := HRA0.out.g.shape
      by_cases hlt : i < l.length
      · have hd : decide ((i : Int) < (l.length : Int)) = true := by simp; omega
        have hrw := HSR.out.below hbw.out
        obtain ⟨bb, off, rfl, hcl, -⟩ := hrw.at i hlt
        obtain ⟨q1, q2, q3, q4, q5, q6, q7⟩ := hcl i hlt
        clear hcl hrw
        obtain ⟨⟨k, ⟨ax, ay⟩, ⟨bx, by_⟩, ⟨cx, cy⟩⟩, hm⟩ : ∃ s : Sg, l[i] = s := ⟨_, rfl⟩
        have hso := HOK.out i hlt
        have HDR : Hid (l.drop i = (k, (ax, ay), (bx, by_), cx, cy) :: l.drop (i + 1)) := by
          show _ = _
          rw [List.drop_eq_getElem_cons hlt, hm]
        rw [hm] at q1 q2 q3 q4 q5 q6 q7 hso
        simp only at q1 q2 q3 q4 q5 q6 q7
        have HK5 : Hid (1 ≤ k ∧ k ≤ 5) := ⟨hso.lo, hso.hi⟩
        have HN1 := Lib.hid (near_pts hso.pts)
        have HNE : Hid (k ≠ 1 → out ≠ []) := by
          intro hk e
          rcases hrow.out with ⟨-, h, -⟩ | ⟨ps, q, us, U, h, -⟩
          · subst h
            rcases hso.ord with h1 | ⟨p, h1, -⟩
            · exact hk h1
            · cases h1
          · rw [h] at e; simp at e
        have HQC : Hid (∀ wx, Below w.heap.size w wx → ∀ j (h : j < l.length), SCell wx bb off j l[j]) := by
          intro wx hbx j hj
          obtain ⟨b', off', e, hcl, -⟩ := (HSR.out.below hbx).at j hj
          cases e
          exact hcl j hj
        have HM := Lib.hid hm
        clear hm hso
        go_upto_if 27 with fail
        have HHE : Hid (w.heap.size ≤ wr.heap.size) := hbw.out.size
        go_cut [5] from 27 to 30 (fun v5 wx => ∃ (b' : Nat) (g c : Nat) (ps : List (List Pt)) (q : List Pt) (us : List Value) (U : Value), v5 = .slice (some ⟨g, 0, none⟩) (ps.length + 1) c ∧ Hid (outK k out = ps ++ [q]) ∧ Hid (RLast wx w.heap.size (kp + 1) b' (.slice (some ⟨g, 0, none⟩) (ps.length + 1) c) ps q us U) ∧
          Hid (q.length ≤ 16 * i + 1) ∧ Hid (b' ≤ wx.heap.size) ∧ Hid (Blk wx kp 32 #[.int .i64 px, .int .i64 py]) ∧ Hid (kp < b') ∧ Hid (Below w.heap.size w wx) ∧ ps.length ≤ i)
        case first =>
          by_cases hk : k = 1
          · subst hk
            have HU2 := Lib.hid HRA0.out.row
            have hmax : maxLen = 9223372036854775807 := rfl
            clear hrow hfl HNE hkb
            go_wp2_with (refine wpList_app (P := Tryd.prog) el_poly (hown := HU2.out) (by exact HHE.out) rfl rfl rfl (m := 0) (cs := #[.slice none 0 0]) rfl (by intro z hz; simp at hz; rw [hz]; rfl) rfl (by omega) (by omega) ?_)
            intro r cap' w5 h5 hg5 hr5
            have HRL := Lib.hid (RLast.of_app HRA0.out (Nat.le_refl _) rfl (by exact h5) hg5)
            have HB5 := Lib.hid (below_app hbw.out HHE.out HU2.out hg5)
            have HP5 : Hid (Blk w5 kp 32 #[.int .i64 px, .int .i64 py]) := (hg5.block kp ((hpt.out.alloc _).lt) (own_blk_ne' hpt.out HU2.out.2 (by decide))).trans (hpt.out.alloc _)
            clear h5 hg5 hr5
            go_wp2_with fail
            go_meet
            case rel => exact ⟨w5.heap.size, r, cap', out, [], us0, _, rfl, by show outK _ _ = _; unfold outK; rw [if_pos rfl], HRL.out, Nat.zero_le _, Nat.le_refl _, HP5.out, HP5.out.lt, HB5.out.1, hol⟩
          · have hkb1 : (k == 1) = false := by simpa using hk
            have hne := HNE.out hk
            obtain ⟨ps, q, us, U, h1, h2, h3⟩ : ∃ ps q us U, out = ps ++ [q] ∧ RLast wr w.heap.size (kp + 1) b (.slice xg out.length cg) ps q us U ∧ q.length ≤ 16 * i + 1 := by
              rcases hrow.out with ⟨h, -⟩ | h
              · exact absurd h hne
              · exact h
            obtain ⟨g, c', h4, -⟩ := h2.shape
            have H1 := Lib.hid h1
            have H2 := Lib.hid h2
            have H4 := Lib.hid h4
            have hpl : ps.length ≤ i := by have := congrArg List.length h1; simp at this; omega
            clear h1 h2 h4 hrow
            go_wp2_with fail
            go_meet
            case rel => exact ⟨b, g, c', ps, q, us, U, H4.out, by show outK _ _ = _; unfold outK; rw [if_neg hk]; exact H1.out, by show RLast _ _ _ _ _ _ _ _ _; rw [← H4.out]; exact H2.out, h3, hbs.out, hpt.out, hkb.out hne, hbw.out, hpl⟩
        case rest =>
          obtain ⟨b', g, c', ps, q, us, U, rfl, hout, hrl, hql, hbs', hpt', hkb', hbw', hpl⟩ := hcut
          have HGS : Hid (rGo [] (0, 0) l = rGo (ps ++ [rbP q (px, py) (k, (ax, ay), (bx, by_), cx, cy)]) (curP (px, py) (k, (ax, ay), (bx, by_), cx, cy)) (l.drop (i + 1))) := by
            show _ = _
            rw [hfl.out, HDR.out]
            exact rGo_step _ _ _ _ _ _ hout.out
          have HLN : Hid ((rbP q (px, py) (k, (ax, ay), (bx, by_), cx, cy)).length ≤ 16 * (i + 1) + 1) := by
            show _ ≤ _
            have h1 := (push_len q (ax, ay)).1
            have h2 := bend_len q (px, py) (k, (ax, ay), (bx, by_), cx, cy)
            have h3 := hql.out
            unfold rbP
            split
            · exact Nat.le_trans h1 (by omega)
            · omega
          clear q1 q2 q3 q4 q5 q6 q7 hrow HRA0 hfl HNE hkb hbs hpt hbw HHE hout HDR hol
          obtain ⟨xu, cu, rfl⟩ := qown_val hrl.out.cur
          obtain ⟨s1, s2, s3, s4, s5, s6, s7⟩ := HQC.out wc hbw'.out i hlt
          rw [HM.out] at s1 s2 s3 s4 s5 s6 s7
          simp only at s1 s2 s3 s4 s5 s6 s7
          have hcu := World.ownsRow.cellAt hrl.out.row ps.length (by omega)
          rw [← hrl.out.len, List.getElem?_append_right (Nat.le_refl _), Nat.sub_self] at hcu
          simp only [List.getElem?_cons_zero, hrl.out.len] at hcu
          generalize hn : ps.length + 1 = n at *
          have HN := Lib.hid hn
          have hpn : ps.length = n - 1 := by omega
          rw [hpn] at hcu
          have HPN := Lib.hid hpn
          have hn1 : wrap64 ((n : Int) - 1) = ((n - 1 : Nat) : Int) := by rw [wrap64_of _ (by omega)]; omega
          have hn8 : IntKind.i64.wrap ((n : Int) - 1) = ((n - 1 : Nat) : Int) := by rw [IntWalk.i64_in _ (by omega)]; omega
          have hn2 : ((n - 1 : Nat) : Int) < (n : Int) := by omega
          have hn3 : (((n - 1 : Nat) : Int)).toNat = n - 1 := by omega
          have hn4 : (0 : Int) ≤ ((n - 1 : Nat) : Int) := by omega
          have hn5 : (1 : Int) ≤ (n : Int) := by omega
          have hn6 : (n : Int) - 1 < (n : Int) := by omega
          have hn7 : ((n : Int) - 1).toNat = n - 1 := by omega
          clear hn hpn
          have HCB := Lib.hid hql.out
          have HBE := Lib.hid (rbend_any q (.slice xu q.length cu) k ax ay bx by_ cx cy px py b' wc.drew (hrl.out.below ((Below.refl _ _).drew)).cur hbs'.out (by have := hql.out; omega) HN1.out.1.1 HN1.out.1.2 HN1.out.2.1.1 HN1.out.2.1.2 HN1.out.2.2.1 HN1.out.2.2.2 hnp.out.1 hnp.out.2)
          have HSPW : ∀ wx, Fr b' [32] wc.drew wx → Below w.heap.size w wx ∧ Blk wx kp 32 #[.int .i64 px, .int .i64 py] := fun wx hf =>
            ⟨hbw'.out.drew.trans ((hf.below hbs'.out).mono (by have := HKP.out; have := hkb'.out; omega)), hf.blk_lt (show Blk wc.drew kp _ _ from hpt'.out) hkb'.out⟩
          have HSP : Hid (∀ wx, Fr b' [32] wc.drew wx → (wx.cell? ⟨kp, 0, none⟩ = some (.int .i64 px) ∧ wx.cell? ⟨kp, 1, none⟩ = some (.int .i64 py) ∧ wx.cell? ⟨bb, off + i * 7, none⟩ = some (.int .i64 k) ∧ wx.cell? ⟨bb, off + i * 7 + 1, none⟩ = some (.int .i64 ax) ∧ wx.cell? ⟨bb, off + i * 7 + 2, none⟩ = some (.int .i64 ay) ∧ wx.cell? ⟨bb, off + i * 7 + 3, none⟩ = some (.int .i64 bx) ∧ wx.cell? ⟨bb, off + i * 7 + 4, none⟩ = some (.int .i64 by_) ∧ wx.cell? ⟨bb, off + i * 7 + 5, none⟩ = some (.int .i64 cx) ∧ wx.cell? ⟨bb, off + i * 7 + 6, none⟩ = some (.int .i64 cy))) := by
            intro wx hf
            obtain ⟨e1, e2⟩ := HSPW wx hf
            obtain ⟨t1, t2, t3, t4, t5, t6, t7⟩ := HQC.out wx e1 i hlt
            rw [HM.out] at t1 t2 t3 t4 t5 t6 t7
            exact ⟨e2.cell 0, e2.cell 1, t1, t2, t3, t4, t5, t6, t7⟩
          have HGB : Hid (w.heap.size ≤ g) := (World.ownsRow.lt hrl.out.row g rfl).1
          have hgk : kp ≠ g := fun e => own_blk_ne' hpt'.out hrl.out.row.2 (by decide) (by rw [e]; rfl)
          have HGK := Lib.hid hgk
          have HSQ : Hid (∀ wx, Fr b' [32] wc.drew wx → ∀ u, Below w.heap.size w (wx.setCell ⟨g, n - 1, none⟩ u) ∧ Blk (wx.setCell ⟨g, n - 1, none⟩ u) kp 32 #[.int .i64 px, .int .i64 py]) := by
            intro wx hf u
            obtain ⟨e1, e2⟩ := HSPW wx hf
            exact ⟨e1.setCell HGB.out u, e2.other HGK.out u⟩
          have HSR2 : Hid (∀ wx, Fr b' [32] wc.drew wx → ∀ u, ((wx.setCell ⟨g, n - 1, none⟩ u).cell? ⟨kp, 0, none⟩ = some (.int .i64 px) ∧ (wx.setCell ⟨g, n - 1, none⟩ u).cell? ⟨kp, 1, none⟩ = some (.int .i64 py) ∧ (wx.setCell ⟨g, n - 1, none⟩ u).cell? ⟨bb, off + i * 7, none⟩ = some (.int .i64 k) ∧ (wx.setCell ⟨g, n - 1, none⟩ u).cell? ⟨bb, off + i * 7 + 1, none⟩ = some (.int .i64 ax) ∧ (wx.setCell ⟨g, n - 1, none⟩ u).cell? ⟨bb, off + i * 7 + 2, none⟩ = some (.int .i64 ay) ∧ (wx.setCell ⟨g, n - 1, none⟩ u).cell? ⟨bb, off + i * 7 + 3, none⟩ = some (.int .i64 bx) ∧ (wx.setCell ⟨g, n - 1, none⟩ u).cell? ⟨bb, off + i * 7 + 4, none⟩ = some (.int .i64 by_) ∧ (wx.setCell ⟨g, n - 1, none⟩ u).cell? ⟨bb, off + i * 7 + 5, none⟩ = some (.int .i64 cx) ∧ (wx.setCell ⟨g, n - 1, none⟩ u).cell? ⟨bb, off + i * 7 + 6, none⟩ = some (.int .i64 cy))) := by
            intro wx hf u
            obtain ⟨e1, e2⟩ := HSQ.out wx hf u
            obtain ⟨t1, t2, t3, t4, t5, t6, t7⟩ := HQC.out _ e1 i hlt
            rw [HM.out] at t1 t2 t3 t4 t5 t6 t7
            exact ⟨e2.cell 0, e2.cell 1, t1, t2, t3, t4, t5, t6, t7⟩
          have hS : (wc.drew.cell? ⟨kp, 0, none⟩ = some (.int .i64 px) ∧ wc.drew.cell? ⟨kp, 1, none⟩ = some (.int .i64 py) ∧ wc.drew.cell? ⟨bb, off + i * 7, none⟩ = some (.int .i64 k) ∧ wc.drew.cell? ⟨bb, off + i * 7 + 1, none⟩ = some (.int .i64 ax) ∧ wc.drew.cell? ⟨bb, off + i * 7 + 2, none⟩ = some (.int .i64 ay) ∧ wc.drew.cell? ⟨bb, off + i * 7 + 3, none⟩ = some (.int .i64 bx) ∧ wc.drew.cell? ⟨bb, off + i * 7 + 4, none⟩ = some (.int .i64 by_) ∧ wc.drew.cell? ⟨bb, off + i * 7 + 5, none⟩ = some (.int .i64 cx) ∧ wc.drew.cell? ⟨bb, off + i * 7 + 6, none⟩ = some (.int .i64 cy)) := ⟨hpt'.out.cell 0, hpt'.out.cell 1, s1, s2, s3, s4, s5, s6, s7⟩
          have HRD : Hid (RLast wc.drew w.heap.size (kp + 1) b' (.slice (some ⟨g, 0, none⟩) n c') ps q us (.slice xu q.length cu)) := hrl.out.below ((Below.refl _ _).drew)
          have hcu' : wc.drew.cell? ⟨g, n - 1, none⟩ = some (.slice xu q.length cu) := hcu
          have HHN : Hid (kp + 1 ≤ b') := hkb'.out
          have HCW : Hid (∀ wx, Fr b' [32] wc.drew wx → wx.cell? ⟨g, n - 1, none⟩ = some (.slice xu q.length cu) ∧ wx.frozen? ⟨g, n - 1, none⟩ = false) := by
            intro wx hf
            have hrx := hf.owns (HN.out ▸ HRD.out.row) (by decide)
            have e1 := World.ownsRow.cellAt hrx ps.length (by have := HN.out; omega)
            rw [← HRD.out.len, List.getElem?_append_right (Nat.le_refl _), Nat.sub_self, HRD.out.len, HPN.out] at e1
            exact ⟨e1, World.ownsRow.frozenAt hrx (n - 1)⟩
          have HSB := Lib.hid (show b' ≤ wc.drew.heap.size from hbs'.out)
          clear HSPW s1 s2 s3 s4 s5 s6 s7 hcu hrl hbs' hpt' hbw' hkb' hgk hql
          go_upto_region 11 with fail
          refine wp_region_held_drew (S := fun _ => True) (by kernel_rfl) trivial (fun hHeld => ?_)
          refine wpAnyH_weaken (S2 := fun W => W.cell? ⟨kp, 0, none⟩ = some (.int .i64 px) ∧ W.cell? ⟨kp, 1, none⟩ = some (.int .i64 py) ∧ W.cell? ⟨bb, off + i * 7, none⟩ = some (.int .i64 k) ∧ W.cell? ⟨bb, off + i * 7 + 1, none⟩ = some (.int .i64 ax) ∧ W.cell? ⟨bb, off + i * 7 + 2, none⟩ = some (.int .i64 ay) ∧ W.cell? ⟨bb, off + i * 7 + 3, none⟩ = some (.int .i64 bx) ∧ W.cell? ⟨bb, off + i * 7 + 4, none⟩ = some (.int .i64 by_) ∧ W.cell? ⟨bb, off + i * 7 + 5, none⟩ = some (.int .i64 cx) ∧ W.cell? ⟨bb, off + i * 7 + 6, none⟩ = some (.int .i64 cy)) (fun _ _ => trivial) ?_
          refine wpAnyH_take (i := 0) (oi := ⟨some 31, Op.move (Operand.tmp 5), 23, _, _, none⟩) (v := ?v1) rfl (by kernel_rfl) (by kernel_rfl) (by kernel_rfl) (fun _ _ _ h => h) (Or.inl ⟨by rfl, ?y1⟩) hS ?r1
          case y1 => (intro w hSw; (try dsimp only at hSw); go_simp; try with_reducible rfl)
          try simp only [Act.put, List.setIfInBounds_toArray, List.set_cons_zero, List.set_cons_succ]
          refine wpAnyH_take (i := 1) (oi := ⟨some 32, Op.move (Operand.tmp 5), 23, _, _, none⟩) (v := ?v2) rfl (by kernel_rfl) (by kernel_rfl) (by kernel_rfl) (fun _ _ _ h => h) (Or.inl ⟨by rfl, ?y2⟩) hS ?r2
          case y2 => (intro w hSw; (try dsimp only at hSw); go_simp; try with_reducible rfl)
          try simp only [Act.put, List.setIfInBounds_toArray, List.set_cons_zero, List.set_cons_succ]
          refine wpAnyH_take (i := 2) (oi := ⟨some 33, Op.call { callee := Callee.builtin Builtin.len, args := #[Operand.tmp 32], argTypes := #[23] }, 3, _, _, none⟩) (v := ?v3) rfl (by kernel_rfl) (by kernel_rfl) (by kernel_rfl) (fun _ _ _ h => h) (Or.inl ⟨by rfl, ?y3⟩) hS ?r3
          case y3 => (intro w hSw; (try dsimp only at hSw); go_simp; try with_reducible rfl)
          try simp only [Act.put, List.setIfInBounds_toArray, List.set_cons_zero, List.set_cons_succ]
          refine wpAnyH_take (i := 3) (oi := ⟨some 34, Op.binOp BinOp.sub 3 (Operand.tmp 33) (Operand.const (Value.int IntKind.i64 1)) 3, 3, _, _, none⟩) (v := ?v4) rfl (by kernel_rfl) (by kernel_rfl) (by kernel_rfl) (fun _ _ _ h => h) (Or.inl ⟨by rfl, ?y4⟩) hS ?r4
          case y4 => (intro w hSw; (try dsimp only at hSw); go_simp; try with_reducible rfl)
          try simp only [Act.put, List.setIfInBounds_toArray, List.set_cons_zero, List.set_cons_succ]
          refine wpAnyH_take (i := 4) (oi := ⟨some 35, Op.move (Operand.tmp 5), 23, _, _, none⟩) (v := ?v5) rfl (by kernel_rfl) (by kernel_rfl) (by kernel_rfl) (fun _ _ _ h => h) (Or.inl ⟨by rfl, ?y5⟩) hS ?r5
          case y5 => (intro w hSw; (try dsimp only at hSw); go_simp; try with_reducible rfl)
          try simp only [Act.put, List.setIfInBounds_toArray, List.set_cons_zero, List.set_cons_succ]
          refine wpAnyH_take (i := 5) (oi := ⟨some 36, Op.move (Operand.tmp 5), 23, _, _, none⟩) (v := ?v6) rfl (by kernel_rfl) (by kernel_rfl) (by kernel_rfl) (fun _ _ _ h => h) (Or.inl ⟨by rfl, ?y6⟩) hS ?r6
          case y6 => (intro w hSw; (try dsimp only at hSw); go_simp; try with_reducible rfl)
          try simp only [Act.put, List.setIfInBounds_toArray, List.set_cons_zero, List.set_cons_succ]
          refine wpAnyH_take (i := 6) (oi := ⟨some 37, Op.call { callee := Callee.builtin Builtin.len, args := #[Operand.tmp 36], argTypes := #[23] }, 3, _, _, none⟩) (v := ?v7) rfl (by kernel_rfl) (by kernel_rfl) (by kernel_rfl) (fun _ _ _ h => h) (Or.inl ⟨by rfl, ?y7⟩) hS ?r7
          case y7 => (intro w hSw; (try dsimp only at hSw); go_simp; try with_reducible rfl)
          try simp only [Act.put, List.setIfInBounds_toArray, List.set_cons_zero, List.set_cons_succ]
          refine wpAnyH_take (i := 7) (oi := ⟨some 38, Op.binOp BinOp.sub 3 (Operand.tmp 37) (Operand.const (Value.int IntKind.i64 1)) 3, 3, _, _, none⟩) (v := ?v8) rfl (by kernel_rfl) (by kernel_rfl) (by kernel_rfl) (fun _ _ _ h => h) (Or.inl ⟨by rfl, ?y8⟩) hS ?r8
          case y8 => (intro w hSw; (try dsimp only at hSw); go_simp; try with_reducible rfl)
          try simp only [Act.put, List.setIfInBounds_toArray, List.set_cons_zero, List.set_cons_succ]
          refine wpAnyH_take (i := 8) (oi := ⟨some 39, Op.indexAddr 23 (Operand.tmp 35) (Operand.tmp 38), 0, _, _, none⟩) (v := ?v9) rfl (by kernel_rfl) (by kernel_rfl) (by kernel_rfl) (fun _ _ _ h => h) (Or.inl ⟨by rfl, ?y9⟩) hS ?r9
          case y9 => (intro w hSw; (try dsimp only at hSw); go_simp; try with_reducible rfl)
          try simp only [Act.put, List.setIfInBounds_toArray, List.set_cons_zero, List.set_cons_succ]
          refine wpAnyH_take (i := 10) (oi := ⟨some 41, Op.load 32 (Operand.tmp 6), 32, _, _, none⟩) (v := ?v10) rfl (by kernel_rfl) (by kernel_rfl) (by kernel_rfl) (fun _ _ _ h => h) (Or.inl ⟨by rfl, ?y10⟩) hS ?r10
          case y10 => (intro w hSw; (try dsimp only at hSw); go_simp; try with_reducible rfl)
          try simp only [Act.put, List.setIfInBounds_toArray, List.set_cons_zero, List.set_cons_succ]
          refine wpAnyH_take (i := 11) (oi := ⟨some 42, Op.move (Operand.tmp 0), 22, _, _, none⟩) (v := ?v11) rfl (by kernel_rfl) (by kernel_rfl) (by kernel_rfl) (fun _ _ _ h => h) (Or.inl ⟨by rfl, ?y11⟩) hS ?r11
          case y11 => (intro w hSw; (try dsimp only at hSw); go_simp; try with_reducible rfl)
          try simp only [Act.put, List.setIfInBounds_toArray, List.set_cons_zero, List.set_cons_succ]
          refine wpAnyH_take (i := 12) (oi := ⟨some 43, Op.move (Operand.tmp 7), 3, _, _, none⟩) (v := ?v12) rfl (by kernel_rfl) (by kernel_rfl) (by kernel_rfl) (fun _ _ _ h => h) (Or.inl ⟨by rfl, ?y12⟩) hS ?r12
          case y12 => (intro w hSw; (try dsimp only at hSw); go_simp; try with_reducible rfl)
          try simp only [Act.put, List.setIfInBounds_toArray, List.set_cons_zero, List.set_cons_succ]
          refine wpAnyH_take (i := 13) (oi := ⟨some 44, Op.indexAddr 22 (Operand.tmp 42) (Operand.tmp 43), 0, _, _, none⟩) (v := ?v13) rfl (by kernel_rfl) (by kernel_rfl) (by kernel_rfl) (fun _ _ _ h => h) (Or.inl ⟨by rfl, ?y13⟩) hS ?r13
          case y13 => (intro w hSw; (try dsimp only at hSw); go_simp; try with_reducible rfl)
          try simp only [Act.put, List.setIfInBounds_toArray, List.set_cons_zero, List.set_cons_succ]
          refine wpAnyH_take (i := 14) (oi := ⟨some 45, Op.load 35 (Operand.tmp 44), 35, _, _, none⟩) (v := ?v14) rfl (by kernel_rfl) (by kernel_rfl) (by kernel_rfl) (fun _ _ _ h => h) (Or.inl ⟨by rfl, ?y14⟩) hS ?r14
          case y14 => (intro w hSw; (try dsimp only at hSw); go_simp; try with_reducible rfl)
          try simp only [Act.put, List.setIfInBounds_toArray, List.set_cons_zero, List.set_cons_succ]
          refine wpAnyH_ready (rs := [9]) (by kernel_rfl) (by simp) ?r15
          refine AllReadyH.cons (o := ⟨some 40, Op.load 37 (Operand.tmp 39), 37, _, _, none⟩) rfl (fun K hK => ?s15) AllReadyH.nil
          go_simp
          refine hK.out _ _ ?k15 (fun hHeld => ?_)
          case k15 => (first | exact hS | exact HSP.out _ HF2.out | exact HSR2.out _ HF2.out _)
          clear hS
          have hS := hHeld
          clear hHeld
          clear hK K
          try simp only [Act.put, List.setIfInBounds_toArray, List.set_cons_zero, List.set_cons_succ]
          refine wpAnyH_ready (rs := [15]) (by kernel_rfl) (by simp) ?r16
          refine AllReadyH.cons (o := ⟨some 46, Op.call { callee := Callee.value (Operand.func 34), args := #[Operand.tmp 40, Operand.tmp 41, Operand.tmp 45], argTypes := #[37, 32, 35] }, 37, _, _, none⟩) rfl (fun K hK => ?s16) AllReadyH.nil
          go_simp
          refine HBE.out.mono ?_; rintro e w2 ⟨v2, rfl, ho2, hf2⟩; have HO2 := Lib.hid ho2; have HF2 := Lib.hid hf2; obtain ⟨x2, c2, rfl⟩ := qown_val ho2; obtain ⟨ec2, ef2⟩ := HCW.out _ hf2; clear ho2 hf2 HBE
          refine hK.out _ _ ?k16 (fun hHeld => ?_)
          case k16 => (first | exact hS | exact HSP.out _ HF2.out | exact HSR2.out _ HF2.out _)
          clear hS
          have hS := hHeld
          clear hHeld
          clear hK K
          try simp only [Act.put, List.setIfInBounds_toArray, List.set_cons_zero, List.set_cons_succ]
          refine wpAnyH_ready (rs := [16]) (by kernel_rfl) (by simp) ?r17
          refine AllReadyH.cons (o := ⟨some 47, Op.indexAddr 23 (Operand.tmp 31) (Operand.tmp 34), 0, _, _, none⟩) rfl (fun K hK => ?s17) AllReadyH.nil
          go_simp
          refine hK.out _ _ ?k17 (fun hHeld => ?_)
          case k17 => (first | exact hS | exact HSP.out _ HF2.out | exact HSR2.out _ HF2.out _)
          clear hS
          have hS := hHeld
          clear hHeld
          clear hK K
          try simp only [Act.put, List.setIfInBounds_toArray, List.set_cons_zero, List.set_cons_succ]
          refine wpAnyH_ready (rs := [17]) (by kernel_rfl) (by simp) ?r18
          refine AllReadyH.cons (o := ⟨none, Op.store 37 (Operand.tmp 47) (Operand.tmp 46), 0, _, _, none⟩) rfl (fun K hK => ?s18) AllReadyH.nil
          go_simp
          refine hK.out _ _ ?k18 (fun hHeld => ?_)
          case k18 => (first | exact hS | exact HSP.out _ HF2.out | exact HSR2.out _ HF2.out _)
          clear hS
          have hS := hHeld
          clear hHeld
          clear hK K
          try simp only [Act.put, List.setIfInBounds_toArray, List.set_cons_zero, List.set_cons_succ]
          refine wpAnyH_done (by kernel_rfl) ?_ _
          have HBQ := Lib.hid (HSQ.out _ HF2.out (.slice x2 (rbP q (px, py) (k, (ax, ay), (bx, by_), cx, cy)).length c2))
          have HRL3 : Hid (RLast (w2.setCell ⟨g, n - 1, none⟩ (.slice x2 (rbP q (px, py) (k, (ax, ay), (bx, by_), cx, cy)).length c2)) w.heap.size (kp + 1) b' (.slice (some ⟨g, 0, none⟩) n c') ps (rbP q (px, py) (k, (ax, ay), (bx, by_), cx, cy)) us (.slice x2 (rbP q (px, py) (k, (ax, ay), (bx, by_), cx, cy)).length c2)) := by
            have h0 : RLast wc.drew w.heap.size (kp + 1) b' (.slice (some ⟨g, 0, none⟩) (ps.length + 1) c') ps q us (.slice xu q.length cu) := by rw [HN.out]; exact HRD.out
            have h1 := h0.store HF2.out HO2.out
            rw [HN.out, HPN.out] at h1
            exact h1
          have HBS3 : Hid (b' ≤ (w2.setCell ⟨g, n - 1, none⟩ (.slice x2 (rbP q (px, py) (k, (ax, ay), (bx, by_), cx, cy)).length c2)).heap.size) := by
            show _ ≤ _
            rw [World.size_setCell']
            exact Nat.le_trans HSB.out HF2.out.size
          clear hS ec2 ef2 HO2 HF2 HSP HSQ HSR2 HRD HCW HSB hcu'
          generalize w2.setCell ⟨g, n - 1, none⟩ (.slice x2 (rbP q (px, py) (k, (ax, ay), (bx, by_), cx, cy)).length c2) = wq at *
          generalize hqq : rbP q (px, py) (k, (ax, ay), (bx, by_), cx, cy) = qq at *
          clear hqq
          obtain ⟨t1, t2, t3, t4, t5, t6, t7⟩ := HQC.out wq HBQ.out.1 i hlt
          rw [HM.out] at t1 t2 t3 t4 t5 t6 t7
          simp only at t1 t2 t3 t4 t5 t6 t7
          have p0 : wq.cell? ⟨kp, 0, none⟩ = some (.int .i64 px) := HBQ.out.2.cell 0
          have p1 : wq.cell? ⟨kp, 1, none⟩ = some (.int .i64 py) := HBQ.out.2.cell 1
          have f0 : wq.frozen? ⟨kp, 0, none⟩ = false := HBQ.out.2.frozen 0
          have f1 : wq.frozen? ⟨kp, 1, none⟩ = false := HBQ.out.2.frozen 1
          have HOUT : Hid ((ps ++ [qq]).length ≤ i + 1) := by show _ ≤ _; simp; omega
          clear hn1 hn2 hn3 hn4 hn5 hn6 hn7 hn8
          rcases (by have := HK5.out; omega : k = 1 ∨ k = 2 ∨ k = 3 ∨ k = 4 ∨ k = 5) with rfl | rfl | rfl | rfl | rfl
          · have HUS : Hid (∀ w, Calls Tryd.prog 15 #[.int .i64 1] w fun e w' => e = .returned (.int .i64 1) ∧ w = w') := fun w => rused_any 1 w
            have HP2 : Hid (Blk ((wq.setCell ⟨kp, 0, none⟩ (.int .i64 ax)).setCell ⟨kp, 1, none⟩ (.int .i64 ay)) kp 32 #[.int .i64 ax, .int .i64 ay]) := (HBQ.out.2.put 0 _).put 1 _
            have HRL4 := Lib.hid ((HRL3.out.putp (i := 0) (u := .int .i64 ax) HBQ.out.2 (Nat.lt_succ_self _) HHN.out).putp (i := 1) (u := .int .i64 ay) (HBQ.out.2.put 0 _) (Nat.lt_succ_self _) HHN.out)
            have HBW4 : Hid (Below w.heap.size w ((wq.setCell ⟨kp, 0, none⟩ (.int .i64 ax)).setCell ⟨kp, 1, none⟩ (.int .i64 ay))) := (HBQ.out.1.setCell HKP.out _).setCell HKP.out _
            have HBS4 : Hid (b' ≤ ((wq.setCell ⟨kp, 0, none⟩ (.int .i64 ax)).setCell ⟨kp, 1, none⟩ (.int .i64 ay)).heap.size) := by show _ ≤ _; rw [World.size_setCell', World.size_setCell']; exact HBS3.out
            go_wp2_with fail
            refine (HUS.out _).mono ?_
            rintro e w1 ⟨rfl, rfl⟩
            go_wp2_with fail
            go_roundw
            case rel => exact ⟨i + 1, ps ++ [qq], ax, ay, b', _, rfl, by go_num, by omega, HGS.out, .inr ⟨ps, qq, us, _, rfl, HRL4.out, HLN.out⟩, HBS4.out, HP2.out, fun _ => HHN.out, ⟨HN1.out.1.1, HN1.out.1.2⟩, HBW4.out, HOUT.out⟩
            case measure => simp [intOf]; omega
          · have HUS : Hid (∀ w, Calls Tryd.prog 15 #[.int .i64 2] w fun e w' => e = .returned (.int .i64 1) ∧ w = w') := fun w => rused_any 2 w
            have HP2 : Hid (Blk ((wq.setCell ⟨kp, 0, none⟩ (.int .i64 ax)).setCell ⟨kp, 1, none⟩ (.int .i64 ay)) kp 32 #[.int .i64 ax, .int .i64 ay]) := (HBQ.out.2.put 0 _).put 1 _
            have HRL4 := Lib.hid ((HRL3.out.putp (i := 0) (u := .int .i64 ax) HBQ.out.2 (Nat.lt_succ_self _) HHN.out).putp (i := 1) (u := .int .i64 ay) (HBQ.out.2.put 0 _) (Nat.lt_succ_self _) HHN.out)
            have HBW4 : Hid (Below w.heap.size w ((wq.setCell ⟨kp, 0, none⟩ (.int .i64 ax)).setCell ⟨kp, 1, none⟩ (.int .i64 ay))) := (HBQ.out.1.setCell HKP.out _).setCell HKP.out _
            have HBS4 : Hid (b' ≤ ((wq.setCell ⟨kp, 0, none⟩ (.int .i64 ax)).setCell ⟨kp, 1, none⟩ (.int .i64 ay)).heap.size) := by show _ ≤ _; rw [World.size_setCell', World.size_setCell']; exact HBS3.out
            go_wp2_with fail
            refine (HUS.out _).mono ?_
            rintro e w1 ⟨rfl, rfl⟩
            go_wp2_with fail
            go_roundw
            case rel => exact ⟨i + 1, ps ++ [qq], ax, ay, b', _, rfl, by go_num, by omega, HGS.out, .inr ⟨ps, qq, us, _, rfl, HRL4.out, HLN.out⟩, HBS4.out, HP2.out, fun _ => HHN.out, ⟨HN1.out.1.1, HN1.out.1.2⟩, HBW4.out, HOUT.out⟩
            case measure => simp [intOf]; omega
          · have HUS : Hid (∀ w, Calls Tryd.prog 15 #[.int .i64 3] w fun e w' => e = .returned (.int .i64 2) ∧ w = w') := fun w => rused_any 3 w
            have HP2 : Hid (Blk ((wq.setCell ⟨kp, 0, none⟩ (.int .i64 bx)).setCell ⟨kp, 1, none⟩ (.int .i64 by_)) kp 32 #[.int .i64 bx, .int .i64 by_]) := (HBQ.out.2.put 0 _).put 1 _
            have HRL4 := Lib.hid ((HRL3.out.putp (i := 0) (u := .int .i64 bx) HBQ.out.2 (Nat.lt_succ_self _) HHN.out).putp (i := 1) (u := .int .i64 by_) (HBQ.out.2.put 0 _) (Nat.lt_succ_self _) HHN.out)
            have HBW4 : Hid (Below w.heap.size w ((wq.setCell ⟨kp, 0, none⟩ (.int .i64 bx)).setCell ⟨kp, 1, none⟩ (.int .i64 by_))) := (HBQ.out.1.setCell HKP.out _).setCell HKP.out _
            have HBS4 : Hid (b' ≤ ((wq.setCell ⟨kp, 0, none⟩ (.int .i64 bx)).setCell ⟨kp, 1, none⟩ (.int .i64 by_)).heap.size) := by show _ ≤ _; rw [World.size_setCell', World.size_setCell']; exact HBS3.out
            go_wp2_with fail
            refine (HUS.out _).mono ?_
            rintro e w1 ⟨rfl, rfl⟩
            go_wp2_with fail
            go_roundw
            case rel => exact ⟨i + 1, ps ++ [qq], bx, by_, b', _, rfl, by go_num, by omega, HGS.out, .inr ⟨ps, qq, us, _, rfl, HRL4.out, HLN.out⟩, HBS4.out, HP2.out, fun _ => HHN.out, ⟨HN1.out.2.1.1, HN1.out.2.1.2⟩, HBW4.out, HOUT.out⟩
            case measure => simp [intOf]; omega
          · have HUS : Hid (∀ w, Calls Tryd.prog 15 #[.int .i64 4] w fun e w' => e = .returned (.int .i64 3) ∧ w = w') := fun w => rused_any 4 w
            have HP2 : Hid (Blk ((wq.setCell ⟨kp, 0, none⟩ (.int .i64 cx)).setCell ⟨kp, 1, none⟩ (.int .i64 cy)) kp 32 #[.int .i64 cx, .int .i64 cy]) := (HBQ.out.2.put 0 _).put 1 _
            have HRL4 := Lib.hid ((HRL3.out.putp (i := 0) (u := .int .i64 cx) HBQ.out.2 (Nat.lt_succ_self _) HHN.out).putp (i := 1) (u := .int .i64 cy) (HBQ.out.2.put 0 _) (Nat.lt_succ_self _) HHN.out)
            have HBW4 : Hid (Below w.heap.size w ((wq.setCell ⟨kp, 0, none⟩ (.int .i64 cx)).setCell ⟨kp, 1, none⟩ (.int .i64 cy))) := (HBQ.out.1.setCell HKP.out _).setCell HKP.out _
            have HBS4 : Hid (b' ≤ ((wq.setCell ⟨kp, 0, none⟩ (.int .i64 cx)).setCell ⟨kp, 1, none⟩ (.int .i64 cy)).heap.size) := by show _ ≤ _; rw [World.size_setCell', World.size_setCell']; exact HBS3.out
            go_wp2_with fail
            refine (HUS.out _).mono ?_
            rintro e w1 ⟨rfl, rfl⟩
            go_wp2_with fail
            go_roundw
            case rel => exact ⟨i + 1, ps ++ [qq], cx, cy, b', _, rfl, by go_num, by omega, HGS.out, .inr ⟨ps, qq, us, _, rfl, HRL4.out, HLN.out⟩, HBS4.out, HP2.out, fun _ => HHN.out, ⟨HN1.out.2.2.1, HN1.out.2.2.2⟩, HBW4.out, HOUT.out⟩
            case measure => simp [intOf]; omega
          · have HUS : Hid (∀ w, Calls Tryd.prog 15 #[.int .i64 5] w fun e w' => e = .returned (.int .i64 0) ∧ w = w') := fun w => rused_any 5 w
            go_wp2_with fail
            refine (HUS.out _).mono ?_
            rintro e w1 ⟨rfl, rfl⟩
            go_wp2_with fail
            go_roundw
            case rel => exact ⟨i + 1, ps ++ [qq], px, py, b', _, rfl, by go_num, by omega, HGS.out, .inr ⟨ps, qq, us, _, rfl, HRL3.out, HLN.out⟩, HBS3.out, HBQ.out.2, fun _ => HHN.out, hnp.out, HBQ.out.1, HOUT.out⟩
            case measure => simp [intOf]; omega
      · have hd : decide ((i : Int) < (l.length : Int)) = false := by simp; omega
        have HZ : Hid (flP l = out) := by show _ = _; rw [← HFL.out, hfl.out, List.drop_of_length_le (by omega)]; rfl
        clear hfl
        go_wp2_with fail
        go_ret2
        exact ⟨by rw [HR.out]; exact ⟨_, rfl, by rw [HZ.out]; exact HRA0.out.g.row⟩, hbw.out⟩
  · have HR : Hid (∀ e w', FlOk l e w' = (e = .returned (.tuple #[.slice none 0 0, .int .i64 (chkP l)]))) := by
      intro e w'; unfold FlOk; rw [if_neg h0]
    generalize chkP l = z at *
    have hz : (z != 0) = true := by simpa using h0
    clear HSR
    go_enter Tryd.func11, Tryd.ntmps11
    go_wp2_with fail
    refine HCK.out.mono ?_
    rintro e w1 ⟨rfl, hb1⟩
    have HB1 := Lib.hid hb1
    clear hb1 HCK
    go_wp2_with fail
    go_ret2
    exact ⟨by rw [HR.out]; rfl, HB1.out⟩
end Go.Proofs.YtgjbelcnkmcbiaaDoor
