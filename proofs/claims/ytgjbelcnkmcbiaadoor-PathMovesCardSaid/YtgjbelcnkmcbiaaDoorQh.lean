/-
  Walk: path.Flatten: the polygons of a path, or the error.
-/
import Derived.Test.YtgjbelcnkmcbiaaDoorQg
namespace Go.Proofs.YtgjbelcnkmcbiaaDoor
open Go.RowKit

/-- What Flatten answers. -/
def FlOk (l : List Sg) (e : Ending) (w' : World) : Prop :=
  if chkP l = 0 then ∃ g, e = .returned (.tuple #[g, .int .i64 0]) ∧ GRow w' g (flP l) else e = .returned (.tuple #[.slice none 0 0, .int .i64 (chkP l)])
theorem seg_next {q : List Pt} {s : Sg} {i : Nat} (hs : ptsBad s = false) (hq : s.1 ≠ 1 → (∃ p, q.getLast? = some p ∧ nearP p) ∧ q.length ≤ 16 * i + 1) :
    (∃ p, (if s.1 = 1 then [s.2.1] else bendP q (lastP q) s).getLast? = some p ∧ nearP p) ∧ (if s.1 = 1 then [s.2.1] else bendP q (lastP q) s).length ≤ 16 * (i + 1) + 1 := by
  obtain ⟨n1, n2, n3⟩ := near_pts hs
  by_cases h : s.1 = 1
  · rw [if_pos h]; exact ⟨⟨_, rfl, n1⟩, by simp⟩
  · rw [if_neg h]
    obtain ⟨⟨p, h1, h2⟩, h3⟩ := hq h
    have hl : lastP q = p := by unfold lastP; rw [h1]; rfl
    rw [hl]
    refine ⟨⟨_, bend_last q p s h h1, ?_⟩, ?_⟩
    · unfold curP
      rw [if_neg h]
      split
      · exact n1
      · split
        · exact n2
        · split
          · exact n3
          · exact h2
    · have := bend_len q p s; omega
theorem GOwn.app {w w' : World} {B b n : Nat} {v v' u : Value} {ps : List (List Pt)} {q : List Pt} {us : List Value} {o : Obj} (hl : us.length = ps.length) (h2 : w.ownsRow B 37 1 v ps.length us) (h3 : ∀ u ∈ us, u.oneCell' = true) (h4 : ∀ i (h : i < ps.length) (h' : i < us.length), PolyAt w b us[i] ps[i])
    (hb : b ≤ w.heap.size) (hq : QOwn w b u q) (hn : n = ps.length + 1) (h5 : w'.ownsRow B 37 1 v' n (us ++ [u])) (hg : (w.alloc o).grownBy w' v.ownBlock) : GOwn w' B w'.heap.size v' (ps ++ [q]) := by
  have hsz : w.heap.size ≤ w'.heap.size := by have := hg.size; simp at this; omega
  refine GOwn.mono (b := w.heap.size) ?_ hsz
  refine GOwn.more hl h2 h3 (fun i h h' => (h4 i h h').mono hb) ⟨b, hq, fun k hk => (World.ownsRow.lt hq k hk).2⟩ hq.row.one hn h5 ?_
  intro k cs hk hbk
  have hbk2 : Blk (w.alloc o) k 32 cs := hbk.alloc o
  exact (hg.block k (by simp; omega) (own_blk_ne' hbk h2.2 (by decide))).trans hbk2

set_option maxRecDepth 100000 in
set_option maxHeartbeats 4000000 in
theorem flatten_any (v : Value) (l : List Sg) (w : World) (hr : SRow w v l) :
    Calls Tryd.prog 10 #[v] w fun e w' => FlOk l e w' ∧ Below w.heap.size w w' := by
  have HCK := Lib.hid (check_any v l w hr)
  obtain ⟨x, c, rfl, hc1, hc2, -⟩ := id hr
  unfold maxLen at hc2
  have HSR := Lib.hid hr
  clear hr
  by_cases h0 : chkP l = 0
  · obtain ⟨hln, hok⟩ := chkP_ok h0
    have HOK := Lib.hid hok
    have HR : Hid (∀ e w', FlOk l e w' = ∃ g, e = .returned (.tuple #[g, .int .i64 0]) ∧ GRow w' g (flP l)) := by
      intro e w'; unfold FlOk; rw [if_pos h0]
    have H0 := Lib.hid h0
    rw [h0] at HCK
    clear h0 hok
    go_enter Tryd.func10, Tryd.ntmps10
    go_wp2_with fail
    refine HCK.out.mono ?_
    rintro e w1 ⟨rfl, hb1⟩
    have HB1 := Lib.hid hb1
    clear hb1 HCK
    go_wp2_with fail
    go_loopw [5, 6, 16] (fun vg vp vi wr => ∃ (i : Nat) (ps : List (List Pt)) (q : List Pt) (b : Nat) (V G : Value), V = vp ∧ G = vg ∧ vi = .int .i64 i ∧ i ≤ l.length ∧ Hid (flP l = flGo ps q (l.drop i)) ∧ Hid (w.heap.size ≤ b ∧ b ≤ wr.heap.size) ∧ Hid (GOwn wr w.heap.size b G ps) ∧ Hid (∀ h : i < l.length, l[i].1 ≠ 1 → Live wr b i V q) ∧ Hid (Below w.heap.size w wr) ∧ ps.length ≤ i)
      (fun _ _ vi _ => l.length - (intOf vi).toNat)
    case atStart =>
      refine ⟨0, [], [], w.heap.size, _, _, rfl, rfl, rfl, Nat.zero_le _, rfl, ⟨Nat.le_refl _, HB1.out.size⟩, gown_nil _ _ _, ?_, HB1.out, Nat.le_refl _⟩
      intro h hk
      rcases (HOK.out 0 h).ord with h1 | ⟨p, h1, -⟩
      · exact absurd h1 hk
      · cases h1
    case round =>
      obtain ⟨i, ps, q, b, V, G, rfl, rfl, rfl, hi, hfl, hbb, hgo, hlv, hbw, hps⟩ := hrel
      by_cases hlt : i < l.length
      · have hd : decide ((i : Int) < (l.length : Int)) = true := by simp; omega
        have hrw := HSR.out.below hbw.out
        obtain ⟨bb, off, rfl, hcl, -⟩ := hrw.at i hlt
        obtain ⟨q1, q2, q3, q4, q5, q6, q7⟩ := hcl i hlt
        clear hcl hrw
        obtain ⟨⟨k, ⟨ax, ay⟩, ⟨bx, by_⟩, ⟨cx, cy⟩⟩, hm⟩ : ∃ s : Sg, l[i] = s := ⟨_, rfl⟩
        have hso := HOK.out i hlt
        have HAT := Lib.hid (hfl.out.trans (flGo_at ps q l i hlt _ hm))
        rw [hm] at q1 q2 q3 q4 q5 q6 q7 hso
        simp only at q1 q2 q3 q4 q5 q6 q7
        have HPB := Lib.hid hso.pts
        have HLV : Hid (k ≠ 1 → Live wr b i V q) := fun hk => hlv.out hlt (by rw [hm]; exact hk)
        clear hfl hlv hso hm
        obtain ⟨qn, hqn⟩ : ∃ qn, (if k = 1 then [(ax, ay)] else bendP q (lastP q) (k, (ax, ay), (bx, by_), cx, cy)) = qn := ⟨_, rfl⟩
        have HQN := Lib.hid hqn
        have HAT2 : Hid (flP l = flGo (if moveNext (l.drop (i + 1)) = true then ps ++ [qn] else ps) qn (l.drop (i + 1))) := by rw [← hqn]; exact HAT.out
        have HSN : Hid ((∃ p, qn.getLast? = some p ∧ nearP p) ∧ qn.length ≤ 16 * (i + 1) + 1) := by
          show _ ∧ _
          rw [← hqn]
          exact seg_next (s := (k, (ax, ay), (bx, by_), cx, cy)) HPB.out fun hk => ⟨(HLV.out hk).la, (HLV.out hk).ln⟩
        clear hqn HAT
        have HN1 := Lib.hid (near_pts HPB.out)
        have hbz := Lib.hid (hbw.out.alloc hbw.out.size (.cells #[.int .i64 k, .int .i64 ax, .int .i64 ay, .int .i64 bx, .int .i64 by_, .int .i64 cx, .int .i64 cy] 35))
        have hbx := Lib.hid ((Below.refl wr.heap.size wr).alloc (Nat.le_refl _) (.cells #[.int .i64 k, .int .i64 ax, .int .i64 ay, .int .i64 bx, .int .i64 by_, .int .i64 cx, .int .i64 cy] 35))
        have hbl := Blk.new wr 35 #[.int .i64 k, .int .i64 ax, .int .i64 ay, .int .i64 bx, .int .i64 by_, .int .i64 cx, .int .i64 cy]
        have y0 : (wr.alloc (.cells #[.int .i64 k, .int .i64 ax, .int .i64 ay, .int .i64 bx, .int .i64 by_, .int .i64 cx, .int .i64 cy] 35)).cell? ⟨wr.heap.size, 0, none⟩ = some (.int .i64 k) := hbl.cell 0
        go_upto_if 23 with fail
        have HG2 : Hid (GOwn (wr.alloc (.cells #[.int .i64 k, .int .i64 ax, .int .i64 ay, .int .i64 bx, .int .i64 by_, .int .i64 cx, .int .i64 cy] 35)) w.heap.size b G ps) := hgo.out.below hbx.out
        have HLV2 : Hid (k ≠ 1 → Live (wr.alloc (.cells #[.int .i64 k, .int .i64 ax, .int .i64 ay, .int .i64 bx, .int .i64 by_, .int .i64 cx, .int .i64 cy] 35)) b i V q) := fun hk => ⟨World.ownsRow.alloc (HLV.out hk).ow _, (HLV.out hk).la, (HLV.out hk).ln⟩
        have HBB : Hid (w.heap.size ≤ b ∧ b ≤ (wr.alloc (.cells #[.int .i64 k, .int .i64 ax, .int .i64 ay, .int .i64 bx, .int .i64 by_, .int .i64 cx, .int .i64 cy] 35)).heap.size) := ⟨hbb.out.1, by have := hbb.out.2; simp; omega⟩
        clear q1 q2 q3 q4 q5 q6 q7 hgo HLV hbb hbw hbx y0
        generalize wr.alloc (.cells #[.int .i64 k, .int .i64 ax, .int .i64 ay, .int .i64 bx, .int .i64 by_, .int .i64 cx, .int .i64 cy] 35) = wz at *
        generalize wr.heap.size = kb at *
        have y0 : wz.cell? ⟨kb, 0, none⟩ = some (.int .i64 k) := hbl.cell 0
        have y1 : wz.cell? ⟨kb, 1, none⟩ = some (.int .i64 ax) := hbl.cell 1
        have y2 : wz.cell? ⟨kb, 2, none⟩ = some (.int .i64 ay) := hbl.cell 2
        go_cut [6] from 23 to 30 (fun v6 wx => ∃ u : Value, u = v6 ∧ Hid (QOwn wx b u qn) ∧ Hid (GOwn wx w.heap.size b G ps) ∧ Hid (Below w.heap.size w wx) ∧ Hid (b ≤ wx.heap.size))
        case first =>
          by_cases hk : k = 1
          · subst hk
            have hqn : qn = [(ax, ay)] := by rw [← HQN.out, if_pos rfl]
            have HQ1 := Lib.hid hqn
            clear HLV2 hqn
            go_wp2_with fail
            go_meet
            case rel =>
              have hb2 := (Below.refl wz.heap.size wz).alloc (Nat.le_refl _) (.cells #[.int .i64 ax, .int .i64 ay] 32)
              refine ⟨_, rfl, ?_, HG2.out.below hb2, hbz.out.alloc hbz.out.size _, by have := HBB.out.2; show _ ≤ _; simp; omega⟩
              show QOwn _ _ _ _
              rw [HQ1.out]
              exact World.ownsRow_lit wz #[.int .i64 ax, .int .i64 ay] 1 HBB.out.2 (by decide) rfl
          · have hkb : (k == 1) = false := by simpa using hk
            have HL3 := Lib.hid (HLV2.out hk)
            obtain ⟨⟨px, py⟩, hp, hpn⟩ := HL3.out.la
            have hln3 := HL3.out.ln
            have HEX := Lib.hid (extend_any q V k ax ay bx by_ cx cy px py b wz HL3.out.ow HBB.out.2 hp (by omega) HN1.out.1.1 HN1.out.1.2 HN1.out.2.1.1 HN1.out.2.1.2 HN1.out.2.2.1 HN1.out.2.2.2 hpn.1 hpn.2)
            have hqn : qn = bendP q (px, py) (k, (ax, ay), (bx, by_), cx, cy) := by rw [← HQN.out, if_neg hk]; unfold lastP; rw [hp]; rfl
            have HQ1 := Lib.hid hqn
            obtain ⟨g, cp, rfl, -⟩ := qown_shape HL3.out.ow (by rintro rfl; cases hp)
            have y3 : wz.cell? ⟨kb, 3, none⟩ = some (.int .i64 bx) := hbl.cell 3
            have y4 : wz.cell? ⟨kb, 4, none⟩ = some (.int .i64 by_) := hbl.cell 4
            have y5 : wz.cell? ⟨kb, 5, none⟩ = some (.int .i64 cx) := hbl.cell 5
            have y6 : wz.cell? ⟨kb, 6, none⟩ = some (.int .i64 cy) := hbl.cell 6
            clear HLV2 hqn hp hpn hln3
            go_wp2_with fail
            refine HEX.out.mono ?_
            rintro e w2 ⟨v2, rfl, ho2, hf2⟩
            have HO2 := Lib.hid ho2
            have HF2 := Lib.hid hf2
            clear ho2 hf2 HEX
            go_wp2_with fail
            go_meet
            case rel =>
              refine ⟨_, rfl, ?_, HG2.out.fr HF2.out, hbz.out.trans ((HF2.out.below HBB.out.2).mono HBB.out.1), Nat.le_trans HBB.out.2 HF2.out.size⟩
              show QOwn _ _ _ _
              rw [HQ1.out]
              exact HO2.out
        case rest =>
          obtain ⟨u, rfl, hq, hg2, hbw, hbx⟩ := hcut
          have hone := hq.out.row.one
          have hx2 := HSR.out.below hbw.out
          obtain ⟨b', off', hv, hcl, -⟩ := hx2.at i hlt
          obtain ⟨rfl, rfl⟩ : b' = bb ∧ off' = off := by injection hv with hv; injection hv with h1 h2; exact ⟨h1.symm, h2.symm⟩
          have HCL := Lib.hid hcl
          obtain ⟨us, hu1, hu2, hu3, hu4⟩ := hg2.out
          have HU2 := Lib.hid hu2
          have HU3 := Lib.hid hu3
          have HU4 := Lib.hid hu4
          have HU1 := Lib.hid hu1
          have hG : ∃ xg cg, G = .slice xg ps.length cg := hg2.out.shape
          obtain ⟨xg, cg, rfl⟩ := hG
          have hmn := move_next l i hlt
          have HWS : Hid (w.heap.size ≤ wc.heap.size) := hbw.out.size
          have hqne : qn ≠ [] := by obtain ⟨⟨p, h, -⟩, -⟩ := HSN.out; rintro rfl; cases h
          obtain ⟨gu, cu, hu, -⟩ := qown_shape hq.out hqne
          have hmax : maxLen = 9223372036854775807 := rfl
          clear hv hcl hx2 hu1 hu2 hu3 hu4 hbl y0 y1 y2 HLV2 HG2 hbz HQN HPB HN1
          subst hu
          cases hmv : moveNext (l.drop (i + 1)) with
          | true =>
            have HZ : Hid (flP l = flGo (ps ++ [qn]) qn (l.drop (i + 1))) := by have h := HAT2.out; rw [hmv, if_pos rfl] at h; exact h
            have HMV : Hid (∀ h : i + 1 < l.length, l[i + 1].1 ≠ 1 → False) := by
              intro h hk
              rcases hmn.1 hmv with e | ⟨_, e⟩
              · omega
              · exact hk e
            rcases hmn.1 hmv with he | ⟨h1, hk1⟩
            · have hA : ((i : Int) == (l.length : Int) - 1) = true := by simp; omega
              clear hmn hmv HAT2
              go_wp2_with (refine wpList_app (P := Tryd.prog) el_poly (hown := HU2.out) (by exact HWS.out) rfl rfl rfl (m := 0) (cs := #[.slice (some ⟨gu, 0, none⟩) qn.length cu]) rfl (by intro z hz; simp at hz; rw [hz]; rfl) rfl (by omega) (by omega) ?_)
              intro r cap' w5 h5 hg5 hr5
              have HA5 := Lib.hid (GOwn.app HU1.out HU2.out HU3.out HU4.out hbx.out hq.out rfl (by exact h5) hg5)
              have HB5 := Lib.hid (below_app hbw.out HWS.out HU2.out hg5)
              clear h5 hg5 hr5
              go_wp2_with fail
              go_roundw
              case rel => exact ⟨i + 1, ps ++ [qn], qn, w5.heap.size, _, _, rfl, rfl, by go_num, by omega, HZ.out, ⟨HB5.out.2, Nat.le_refl _⟩, HA5.out, fun h hk => (HMV.out h hk).elim, HB5.out.1, by simp; omega⟩
              case measure => simp [intOf]; omega
            · have hA : ((i : Int) == (l.length : Int) - 1) = false := by simp; omega
              obtain ⟨q1, -⟩ := HCL.out (i + 1) h1
              rw [hk1] at q1
              have hi1 : (i : Int) + 1 < (l.length : Int) := by omega
              clear hmn hmv HAT2
              go_wp2_with (refine wpList_app (P := Tryd.prog) el_poly (hown := HU2.out) (by exact HWS.out) rfl rfl rfl (m := 0) (cs := #[.slice (some ⟨gu, 0, none⟩) qn.length cu]) rfl (by intro z hz; simp at hz; rw [hz]; rfl) rfl (by omega) (by omega) ?_)
              intro r cap' w5 h5 hg5 hr5
              have HA5 := Lib.hid (GOwn.app HU1.out HU2.out HU3.out HU4.out hbx.out hq.out rfl (by exact h5) hg5)
              have HB5 := Lib.hid (below_app hbw.out HWS.out HU2.out hg5)
              clear h5 hg5 hr5
              go_wp2_with fail
              go_roundw
              case rel => exact ⟨i + 1, ps ++ [qn], qn, w5.heap.size, _, _, rfl, rfl, by go_num, by omega, HZ.out, ⟨HB5.out.2, Nat.le_refl _⟩, HA5.out, fun h hk => (HMV.out h hk).elim, HB5.out.1, by simp; omega⟩
              case measure => simp [intOf]; omega
          | false =>
            have HZ : Hid (flP l = flGo ps qn (l.drop (i + 1))) := by have h := HAT2.out; rw [hmv, if_neg (by decide)] at h; exact h
            obtain ⟨h1, hk1⟩ : ∃ h : i + 1 < l.length, (l[i + 1].1 == 1) = false := by
              have hne : ¬ (i + 1 = l.length) := fun e => by have := hmn.2 (.inl e); rw [hmv] at this; cases this
              have h1 : i + 1 < l.length := by omega
              refine ⟨h1, ?_⟩
              cases e : (l[i + 1].1 == 1) with
              | false => rfl
              | true => have := hmn.2 (.inr ⟨h1, by simpa using e⟩); rw [hmv] at this; cases this
            have hA : ((i : Int) == (l.length : Int) - 1) = false := by simp; omega
            obtain ⟨q1, -⟩ := HCL.out (i + 1) h1
            generalize l[i + 1].1 = k1 at *
            have hi1 : (i : Int) + 1 < (l.length : Int) := by omega
            clear hmn hmv HAT2
            have HLN : Hid (Live wc b (i + 1) (.slice (some ⟨gu, 0, none⟩) qn.length cu) qn) := ⟨hq.out, HSN.out.1, HSN.out.2⟩
            go_wp2_with fail
            go_roundw
            case rel => exact ⟨i + 1, ps, qn, b, _, _, rfl, rfl, by go_num, by omega, HZ.out, ⟨HBB.out.1, hbx.out⟩, hg2.out, fun _ _ => HLN.out, hbw.out, by omega⟩
            case measure => simp [intOf]; omega
      · have hd : decide ((i : Int) < (l.length : Int)) = false := by simp; omega
        have HZ : Hid (flP l = ps) := by show _ = _; rw [hfl.out, List.drop_of_length_le (by omega)]; rfl
        obtain ⟨xg, cg, rfl⟩ := hgo.out.shape
        clear hlv hfl
        go_wp2_with fail
        go_ret2
        exact ⟨by rw [HR.out]; exact ⟨_, rfl, by rw [HZ.out]; exact hgo.out.row⟩, hbw.out⟩
  · have HR : Hid (∀ e w', FlOk l e w' = (e = .returned (.tuple #[.slice none 0 0, .int .i64 (chkP l)]))) := by
      intro e w'; unfold FlOk; rw [if_neg h0]
    generalize chkP l = z at *
    have hz : (z != 0) = true := by simpa using h0
    clear HSR
    go_enter Tryd.func10, Tryd.ntmps10
    go_wp2_with fail
    refine HCK.out.mono ?_
    rintro e w1 ⟨rfl, hb1⟩
    have HB1 := Lib.hid hb1
    clear hb1 HCK
    go_wp2_with fail
    go_ret2
    exact ⟨by rw [HR.out]; rfl, HB1.out⟩
end Go.Proofs.YtgjbelcnkmcbiaaDoor
