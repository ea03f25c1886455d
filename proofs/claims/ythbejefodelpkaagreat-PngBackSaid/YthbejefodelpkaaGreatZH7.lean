/-
  The law PngBack.
-/
import Derived.Test.YthbejefodelpkaaGreatZH6
import Derived.Test.YthbejefodelpkaaGreatZOm
namespace Go.Proofs.YthbejefodelpkaaGreat
open Go.RowKit
set_option maxRecDepth 100000

structure LP2 (ws wr : World) (I W H : Nat) (pv : Value) (l : List Px) : Prop where
  ix : Blk wr I 36 (imgI W H pv)
  po : POwn wr I pv l
  lt : I < wr.heap.size
  be : Below I ws wr
theorem LP2.alloc {ws wr : World} {I W H : Nat} {pv : Value} {l : List Px} (h : LP2 ws wr I W H pv l) (o : Obj) : LP2 ws (wr.alloc o) I W H pv l :=
  ⟨h.ix.alloc o, World.ownsRow.alloc h.po o, by have := h.lt; simp; omega, h.be.alloc (Nat.le_of_lt h.lt) o⟩
theorem LP2.drew {ws wr : World} {I W H : Nat} {pv : Value} {l : List Px} (h : LP2 ws wr I W H pv l) : LP2 ws wr.drew I W H pv l := ⟨h.ix.drew, h.po, h.lt, h.be.drew⟩
theorem lp2_zero (ws : World) (W H : Nat) : LP2 ws (ws.alloc (.cells (imgI W H (.slice none 0 0)) 36)) ws.heap.size W H (.slice none 0 0) [] :=
  ⟨Blk.new ws _ _, World.ownsRow_nil _ _ _ _, by simp, (Below.refl _ _).alloc (Nat.le_refl _) _⟩
theorem LP2.put {ws wr : World} {I W H A : Nat} {pv : Value} {l : List Px} (h : LP2 ws wr I W H pv l) (hIA : I < A) (hob : pv.ownBlock ≠ some A) (i : Nat) (u : Value) : LP2 ws (wr.setCell ⟨A, i, none⟩ u) I W H pv l :=
  ⟨h.ix.other (p := ⟨A, i, none⟩) (by show I ≠ A; omega) u, ownsRow_setCell_other h.po hob u, by have := h.lt; simpa [World.setCell] using this, below_put h.be (p := ⟨A, i, none⟩) (by show I ≤ A; omega) u⟩
theorem lp2_own {ws wr : World} {I W H : Nat} {pv : Value} {l : List Px} (h : LP2 ws wr I W H pv l) : pv.ownBlock ≠ some wr.heap.size := by
  intro e
  have := (World.ownsRow.lt h.po _ e).2
  omega
theorem lp2_next {ws wr w4 : World} {I W H : Nat} {pv v' : Value} {l : List Px} {p : Px} {o : Obj} (h : LP2 ws wr I W H pv l) (ho : POwn w4 I v' (l ++ [p])) (hg : (wr.alloc o).grownBy w4 pv.ownBlock) :
    Blk w4 I 36 (imgI W H pv) ∧ LP2 ws (w4.setCell ⟨I, 2, none⟩ v') I W H v' (l ++ [p]) := by
  have hi : Blk w4 I 36 (imgI W H pv) := (hg.block I (by have := h.lt; simp; omega) (own_blk_ne' h.ix h.po.2 (by decide))).trans (h.ix.alloc o)
  have hb : Below I ws w4 := (h.be.alloc (Nat.le_of_lt h.lt) o).grown hg (by have := h.lt; simp; omega) (fun k hk => (World.ownsRow.lt h.po k hk).1)
  have h2 := hi.put 2 v'
  rw [imgI_set2] at h2
  exact ⟨hi, h2, pown_put ho hi (by decide) 2 v', by have := hi.lt; simpa [World.setCell] using this, below_put hb (p := ⟨I, 2, none⟩) (Nat.le_refl _) _⟩
theorem LP2.below {ws wr w2 : World} {I W H : Nat} {pv : Value} {l : List Px} (h : LP2 ws wr I W H pv l) (hb : Below wr.heap.size wr w2) : LP2 ws w2 I W H pv l :=
  ⟨h.ix.keep hb, own_below h.po hb, Nat.lt_of_lt_of_le h.lt hb.size, h.be.trans (hb.mono (Nat.le_of_lt h.lt))⟩
theorem cv16 (px : List Px) : px.map (cvP 16) = px := by
  have : cvP 16 = id := by funext p; unfold cvP; rw [if_pos rfl]; rfl
  rw [this, List.map_id]
theorem gencP_err {W H : Int} {px : List Px} {D : Int} {ms : List Mt} {k : Nat} (h : gencP W H px D ms = .error k) : k ≠ 0 := by
  unfold gencP at h
  split at h
  · rename_i h1; cases h; exact h1
  split at h; · cases h; decide
  split at h; · cases h; decide
  split at h
  · rename_i h1; cases h; exact h1
  split at h
  · rename_i h1
    cases h
    unfold joinP at h1
    split at h1
    · rename_i h2; cases h1; exact h2
    split at h1; · cases h1; decide
    split at h1; · cases h1; decide
    cases h1
  · split at h
    · cases h; decide
    · cases h

set_option maxHeartbeats 8000000 in
theorem back16 (v : Value) (mv : Value) (w : World) (hv : IArg w v) (hm : MArg w mv) :
    Calls Tryz.prog 7 #[v, .bool true, mv] w fun e w' => e = .returned (.bool true) ∧ Below w.heap.size w w' := by
  obtain ⟨W, H, pv, px, rfl, hp⟩ := hv
  obtain ⟨ms, hm, -⟩ := hm
  obtain ⟨xp, cp, rfl, hcp1, hcp2, -⟩ := id hp
  obtain ⟨xm, cm, rfl, -⟩ := id hm
  unfold maxLen at hcp2
  have HEN := Lib.hid (fun w h1 h2 => encode_any W H 16 (.slice xp px.length cp) (.slice xm ms.length cm) px ms w h1 h2)
  have HAW := Lib.hid (fun w => awake_any w)
  obtain ⟨r, hr⟩ : ∃ r, gencP W H px 16 ms = r := ⟨_, rfl⟩
  have HGE := Lib.hid (fun k (h : r = .error k) => gencP_err (hr.trans h))
  have HGI := Lib.hid (fun t (h : r = .ok t) => gencP_inv (hr.trans h))
  have HGB := Lib.hid (fun t (h : r = .ok t) => dec_back (hr.trans h))
  rw [hr] at HEN
  clear hr
  have HK0 := Lib.hid (Blk.new w 36 (imgI W H (.slice xp px.length cp)))
  have hb0 := (Below.refl w.heap.size w).alloc (Nat.le_refl _) (.cells (imgI W H (.slice xp px.length cp)) 36)
  have HP0 := Lib.hid (hp.below hb0)
  have HM0 := Lib.hid (hm.below hb0)
  have HB0 := Lib.hid hb0
  clear hb0 hp hm
  unfold imgI at HK0 HP0 HM0 HB0 HEN
  go_enter Tryz.func7, Tryz.ntmps7
  go_upto_region 1 with fail
  generalize w.alloc (.cells #[.int .i64 W, .int .i64 H, .slice xp px.length cp] 36) = w0 at *
  generalize hB : w.heap.size = B at *
  have HB := Lib.hid hB
  clear hB
  have a0 : w0.cell? ⟨B, 0, none⟩ = some (.int .i64 W) := HK0.out.cell 0
  have a1 : w0.cell? ⟨B, 1, none⟩ = some (.int .i64 H) := HK0.out.cell 1
  have a2 : w0.cell? ⟨B, 2, none⟩ = some (.slice xp px.length cp) := HK0.out.cell 2
  go_wp2_with fail
  refine (HEN.out _ HP0.out HM0.out).mono ?_
  rintro e w1 ⟨he, hb1⟩
  have HB1 := Lib.hid (HB0.out.trans (hb1.mono (Nat.le_of_lt HK0.out.lt)))
  have HK1 := Lib.hid (HK0.out.keep hb1)
  have HP1 := Lib.hid (HP0.out.below hb1)
  have HM1 := Lib.hid (HM0.out.below hb1)
  clear hb1 HB0 HK0 HP0 HM0 HEN a0 a1 a2
  cases r with
  | error k =>
    have he : e = .returned (.tuple #[.string ⟨#[]⟩, .int .i64 (k : Nat)]) := he
    subst he
    have hk := HGE.out k rfl
    have dk : ((k : Int) != 0) = true := by simp; omega
    clear hk HGE HGI HGB
    go_wp2_with fail
    refine (HAW.out _).mono ?_
    rintro e w2 ⟨rfl, hb⟩
    have HB2 := Lib.hid (HB1.out.trans (hb.mono (Nat.le_of_lt HK1.out.lt)))
    have HS2 : Hid (B ≤ w2.heap.size) := Nat.le_trans (Nat.le_of_lt HK1.out.lt) hb.size
    clear hb
    go_wp2_with fail
    refine (HAW.out _).mono ?_
    rintro e w3 ⟨rfl, hb⟩
    have HB3 := Lib.hid (HB2.out.trans (hb.mono HS2.out))
    clear hb
    go_wp2_with fail
    go_ret
    exact ⟨rfl, by rw [HB.out]; exact HB3.out⟩
  | ok t =>
  have he : e = .returned (.tuple #[.string ⟨t.toArray⟩, .int .i64 0]) := he
  subst he
  obtain ⟨a, b, d, rfl, rfl, hd, -, ha, hb, hpl, -, -, -, ht⟩ := HGI.out t rfl
  have hdb := HGB.out t rfl
  simp only [Int.toNat_natCast] at hdb
  rw [show (16 : Int).toNat = 16 from rfl] at hdb
  obtain ⟨S, hS⟩ : ∃ S : ByteArray, S = ⟨t.toArray⟩ := ⟨_, rfl⟩
  have hSd : S.data.toList = t := by rw [hS]
  have hSs : S.size ≤ 1048576 := by
    have e : S.size = S.data.toList.length := by simp
    rw [e, hSd]; exact ht
  have HDE : Hid (∀ w, Calls Tryz.prog 26 #[.string S] w fun e w' => (∃ v vm, e = .returned (.tuple #[.agg #[.int .i64 (a : Int), .int .i64 (b : Int), v], vm, .int .i64 0]) ∧ PRow w' v (px.map (cvP 16)) ∧ MRow w' vm ms) ∧ Below w.heap.size w w') := fun w => by
    have h := decode_any S w (by omega)
    rw [hSd, hdb] at h
    exact h
  have hpn : px.length ≤ 65536 := by rw [hpl]; exact Nat.mul_le_mul ha.2 hb.2
  have HSS := Lib.hid hSs
  rw [← hS]
  clear hS hSd hdb ht hd HGE HGI HGB hpl hSs
  go_wp2_with fail
  refine (HAW.out _).mono ?_
  rintro e w2 ⟨rfl, hb⟩
  have HB2 := Lib.hid (HB1.out.trans (hb.mono (Nat.le_of_lt HK1.out.lt)))
  have HK2 := Lib.hid (HK1.out.keep hb)
  have HP2 := Lib.hid (HP1.out.below hb)
  have HM2 := Lib.hid (HM1.out.below hb)
  clear hb HB1 HK1 HP1 HM1
  have a0 : w2.cell? ⟨B, 0, none⟩ = some (.int .i64 (a : Int)) := HK2.out.cell 0
  have a1 : w2.cell? ⟨B, 1, none⟩ = some (.int .i64 (b : Int)) := HK2.out.cell 1
  have HL2 := Lib.hid (lp2_zero w2 a b)
  unfold imgI at HL2
  go_upto_region 8 with fail
  clear a0 a1
  generalize w2.alloc (.cells #[.int .i64 (a : Int), .int .i64 (b : Int), .slice none 0 0] 36) = w3 at *
  obtain ⟨I, hI⟩ : ∃ I, I = w2.heap.size := ⟨_, rfl⟩
  rw [← hI] at HL2 ⊢
  have HI := Lib.hid hI
  have HBI : Hid (B < I) := by show _ < _; rw [hI]; exact HK2.out.lt
  clear hI
  have HKK : Hid (∀ wr, Below I w2 wr → Blk wr B 36 #[.int .i64 (a : Int), .int .i64 (b : Int), .slice xp px.length cp] ∧ PRow wr (.slice xp px.length cp) px ∧ MRow wr (.slice xm ms.length cm) ms ∧ Below B w wr) := fun wr h => by
    rw [HI.out] at h
    exact ⟨HK2.out.keep h, HP2.out.below h, HM2.out.below h, HB2.out.trans (h.mono (Nat.le_of_lt HK2.out.lt))⟩
  have a2 : w3.cell? ⟨B, 2, none⟩ = some (.slice xp px.length cp) := (HKK.out _ HL2.out.be).1.cell 2
  go_wp2_with fail
  clear a2
  go_loopw [42] (fun vi wr => ∃ (i : Nat) (pv : Value) (l : List Px), vi = .int .i64 i ∧ i ≤ px.length ∧ Hid (l = (px.take i).map (cvP 16)) ∧ Hid (LP2 w2 wr I a b pv l)) (fun vi _ => px.length - (intOf vi).toNat)
  case atStart => exact ⟨0, _, [], rfl, Nat.zero_le _, rfl, HL2.out⟩
  case round =>
    clear HL2
    obtain ⟨i, pv, l, rfl, hi, hl, hlp⟩ := hrel
    by_cases hlt : i < px.length
    · have hdl : decide ((i : Int) < (px.length : Int)) = true := by simp; omega
      have i1 : (i : Int) < (px.length : Int) := by omega
      have hll : l.length ≤ 65536 := by rw [hl.out, List.length_map, List.length_take]; omega
      obtain ⟨g1, o1, hxp, hc1⟩ : ∃ g1 o1, xp = some ⟨g1, o1, none⟩ ∧ PCell wr g1 o1 i px[i] := by
        obtain ⟨x', c', hve, -, -, -, hcl⟩ := (HKK.out _ hlp.out.be).2.1
        obtain ⟨rfl, rfl⟩ : xp = x' ∧ cp = c' := by injection hve with e1 e2 e3; exact ⟨e1, e3⟩
        obtain ⟨g1, o1, h1, h2⟩ := hcl (by rintro rfl; simp at hlt)
        exact ⟨g1, o1, h1, h2 i hlt⟩
      subst hxp
      obtain ⟨p, hp⟩ : ∃ p, px[i] = p := ⟨_, rfl⟩
      have HNX : Hid (∀ q, cvP 16 p = q → l ++ [q] = (px.take (i + 1)).map (cvP 16)) := fun q hq => by
        rw [List.take_succ_eq_append_getElem hlt, List.map_append, ← hl.out, hp, ← hq]; rfl
      rw [hp] at hc1
      obtain ⟨p0, p1, p2, p3⟩ := p
      obtain ⟨q0, q1, q2, q3⟩ := hc1
      simp only at q0 q1 q2 q3
      have HV := Lib.hid (Blk.new wr 41 #[.int .i64 p0, .int .i64 p1, .int .i64 p2, .int .i64 p3])
      have HLV := Lib.hid (hlp.out.alloc (.cells #[.int .i64 p0, .int .i64 p1, .int .i64 p2, .int .i64 p3] 41))
      have HIV : Hid (I < wr.heap.size) := hlp.out.lt
      have HOV := Lib.hid (lp2_own hlp.out)
      clear hp hl hlp
      go_upto_region 11 with fail
      clear q0 q1 q2 q3
      generalize wr.alloc (.cells #[.int .i64 p0, .int .i64 p1, .int .i64 p2, .int .i64 p3] 41) = wv at *
      generalize wr.heap.size = V at *
      obtain ⟨xo, co, hpv⟩ := pown_shape HLV.out.po
      subst hpv
      have b2 : wv.cell? ⟨I, 2, none⟩ = some (.slice xo l.length co) := HLV.out.ix.cell 2
      have t0 : wv.cell? ⟨V, 0, none⟩ = some (.int .i64 p0) := HV.out.cell 0
      have t1 : wv.cell? ⟨V, 1, none⟩ = some (.int .i64 p1) := HV.out.cell 1
      have t2 : wv.cell? ⟨V, 2, none⟩ = some (.int .i64 p2) := HV.out.cell 2
      have t3 : wv.cell? ⟨V, 3, none⟩ = some (.int .i64 p3) := HV.out.cell 3
      have HQ := Lib.hid (HNX.out (p0, p1, p2, p3) (rfl))
      clear HNX
      go_wp2_with (at_builtin; refine wpList_app el_pix HLV.out.po (Nat.le_of_lt HLV.out.lt) rfl rfl rfl (m := 0) rfl (by simp [Value.oneCell']) rfl (by omega) (by unfold maxLen; omega) ?_)
      intro r2 cap2 w4 ho2 hg2 _
      have hpo : POwn w4 I (.slice (some ⟨r2, 0, none⟩) (l.length + 1) cap2) (l ++ [(p0, p1, p2, p3)]) := pown_more (n := l.length + 1) ho2 [(p0, p1, p2, p3)] (by simp [pcells, pixA, pxC]) rfl
      obtain ⟨hi4, hn4⟩ := lp2_next HLV.out hpo hg2
      have HN4 := Lib.hid hn4
      have k2 : w4.cell? ⟨I, 2, none⟩ = some (.slice xo l.length co) := hi4.cell 2
      have f2 := hi4.frozen 2
      clear ho2 hg2 hpo hn4 hi4 b2 t0 t1 t2 t3 HLV
      go_wp2_with fail
      go_roundw
      case rel => exact ⟨i + 1, _, l ++ [(p0, p1, p2, p3)], by go_num, by omega, HQ, HN4.out⟩
      case measure => simp [intOf]; omega
    · have hdl : decide ((i : Int) < (px.length : Int)) = false := by simp; omega
      have HLL : Hid (l = px.map (cvP 16)) := by show _ = _; rw [hl.out, List.take_of_length_le (by omega)]
      clear hl
      go_wp2_with fail
      refine (HDE.out _).mono ?_
      rintro e w4 ⟨⟨v4, vm4, rfl, hp4, hm4⟩, hb⟩
      obtain ⟨x4, c4, rfl, -⟩ := id hp4
      obtain ⟨y4, d4, rfl, -⟩ := id hm4
      obtain ⟨n4, hn4⟩ : ∃ n, (px.map (cvP 16)).length = n := ⟨_, rfl⟩
      rw [hn4] at hp4 ⊢
      have hb4 := (Below.refl w4.heap.size w4).alloc (Nat.le_refl _) (.cells #[.int .i64 (a : Int), .int .i64 (b : Int), .slice x4 n4 c4] 36)
      have HL4 := Lib.hid ((hlp.out.below hb).below hb4)
      have HP4 := Lib.hid (hp4.below hb4)
      have HM4 := Lib.hid (hm4.below hb4)
      have HK4 := Lib.hid (Blk.new w4 36 #[.int .i64 (a : Int), .int .i64 (b : Int), .slice x4 n4 c4])
      clear hb hb4 hp4 hm4 hlp
      go_upto_region 18 with fail
      generalize w4.alloc (.cells #[.int .i64 (a : Int), .int .i64 (b : Int), .slice x4 n4 c4] 36) = w5 at *
      generalize w4.heap.size = K at *
      have b0 : w5.cell? ⟨K, 0, none⟩ = some (.int .i64 (a : Int)) := HK4.out.cell 0
      have b1 : w5.cell? ⟨K, 1, none⟩ = some (.int .i64 (b : Int)) := HK4.out.cell 1
      have b2 : w5.cell? ⟨K, 2, none⟩ = some (.slice x4 n4 c4) := HK4.out.cell 2
      have a0 : w5.cell? ⟨I, 0, none⟩ = some (.int .i64 (a : Int)) := HL4.out.ix.cell 0
      have a1 : w5.cell? ⟨I, 1, none⟩ = some (.int .i64 (b : Int)) := HL4.out.ix.cell 1
      have a2 : w5.cell? ⟨I, 2, none⟩ = some pv := HL4.out.ix.cell 2
      have HPW : Hid (PRow w5 pv (px.map (cvP 16))) := by show PRow _ _ _; rw [← HLL.out]; exact POwn.prow HL4.out.po
      have HSA := Lib.hid (same_any a b (.slice x4 n4 c4) pv _ w5 HP4.out HPW.out)
      simp only [imgI] at HSA
      go_wp2_with fail
      refine HSA.out.mono ?_
      rintro e w6 ⟨rfl, hb⟩
      have HL6 := Lib.hid (HL4.out.below hb)
      have HM6 := Lib.hid (HM4.out.below hb)
      clear hb b0 b1 b2 a0 a1 a2 HSA HL4 HM4
      go_wp2_with fail
      refine (sameMeta_any _ _ ms _ HM6.out (HKK.out _ HL6.out.be).2.2.1).mono ?_
      rintro e w7 ⟨rfl, hb⟩
      have HL7 := Lib.hid (HL6.out.below hb)
      clear hb HL6 HM6
      have dS : decide ((S.size : Int) ≤ 1048576) = true := by have := HSS.out; simp; omega
      have hS1 : S.size ≤ 1048576 := HSS.out
      go_wp2_with fail
      go_ret
      exact ⟨rfl, by rw [HB.out]; exact (HKK.out _ HL7.out.be).2.2.2⟩

set_option maxHeartbeats 8000000 in
theorem back8 (v : Value) (mv : Value) (w : World) (hv : IArg w v) (hm : MArg w mv) :
    Calls Tryz.prog 7 #[v, .bool false, mv] w fun e w' => e = .returned (.bool true) ∧ Below w.heap.size w w' := by
  obtain ⟨W, H, pv, px, rfl, hp⟩ := hv
  obtain ⟨ms, hm, -⟩ := hm
  obtain ⟨xp, cp, rfl, hcp1, hcp2, -⟩ := id hp
  obtain ⟨xm, cm, rfl, -⟩ := id hm
  unfold maxLen at hcp2
  have HEN := Lib.hid (fun w h1 h2 => encode_any W H 8 (.slice xp px.length cp) (.slice xm ms.length cm) px ms w h1 h2)
  have HT : Hid (∀ x w, Calls Tryz.prog 24 #[.int .i64 x] w fun e w' => e = .returned (.int .i64 (to8I x)) ∧ w = w') := fun x w => pto8_any x w
  obtain ⟨f, hf⟩ : ∃ f : Int → Int, ∀ x, from8I (to8I x) = f x := ⟨fun x => from8I (to8I x), fun _ => rfl⟩
  have HF : Hid (∀ x w, Calls Tryz.prog 25 #[.int .i64 (to8I x)] w fun e w' => e = .returned (.int .i64 (f x)) ∧ w = w') := fun x w => by
    have h := from8_any (to8I x) w
    rwa [hf] at h
  have HF0 := Lib.hid hf
  clear hf
  have HAW := Lib.hid (fun w => awake_any w)
  obtain ⟨r, hr⟩ : ∃ r, gencP W H px 8 ms = r := ⟨_, rfl⟩
  have HGE := Lib.hid (fun k (h : r = .error k) => gencP_err (hr.trans h))
  have HGI := Lib.hid (fun t (h : r = .ok t) => gencP_inv (hr.trans h))
  have HGB := Lib.hid (fun t (h : r = .ok t) => dec_back (hr.trans h))
  rw [hr] at HEN
  clear hr
  have HK0 := Lib.hid (Blk.new w 36 (imgI W H (.slice xp px.length cp)))
  have hb0 := (Below.refl w.heap.size w).alloc (Nat.le_refl _) (.cells (imgI W H (.slice xp px.length cp)) 36)
  have HP0 := Lib.hid (hp.below hb0)
  have HM0 := Lib.hid (hm.below hb0)
  have HB0 := Lib.hid hb0
  clear hb0 hp hm
  unfold imgI at HK0 HP0 HM0 HB0 HEN
  go_enter Tryz.func7, Tryz.ntmps7
  go_upto_region 1 with fail
  generalize w.alloc (.cells #[.int .i64 W, .int .i64 H, .slice xp px.length cp] 36) = w0 at *
  generalize hB : w.heap.size = B at *
  have HB := Lib.hid hB
  clear hB
  have a0 : w0.cell? ⟨B, 0, none⟩ = some (.int .i64 W) := HK0.out.cell 0
  have a1 : w0.cell? ⟨B, 1, none⟩ = some (.int .i64 H) := HK0.out.cell 1
  have a2 : w0.cell? ⟨B, 2, none⟩ = some (.slice xp px.length cp) := HK0.out.cell 2
  go_wp2_with fail
  refine (HEN.out _ HP0.out HM0.out).mono ?_
  rintro e w1 ⟨he, hb1⟩
  have HB1 := Lib.hid (HB0.out.trans (hb1.mono (Nat.le_of_lt HK0.out.lt)))
  have HK1 := Lib.hid (HK0.out.keep hb1)
  have HP1 := Lib.hid (HP0.out.below hb1)
  have HM1 := Lib.hid (HM0.out.below hb1)
  clear hb1 HB0 HK0 HP0 HM0 HEN a0 a1 a2
  cases r with
  | error k =>
    have he : e = .returned (.tuple #[.string ⟨#[]⟩, .int .i64 (k : Nat)]) := he
    subst he
    have hk := HGE.out k rfl
    have dk : ((k : Int) != 0) = true := by simp; omega
    clear hk HGE HGI HGB
    go_wp2_with fail
    refine (HAW.out _).mono ?_
    rintro e w2 ⟨rfl, hb⟩
    have HB2 := Lib.hid (HB1.out.trans (hb.mono (Nat.le_of_lt HK1.out.lt)))
    have HS2 : Hid (B ≤ w2.heap.size) := Nat.le_trans (Nat.le_of_lt HK1.out.lt) hb.size
    clear hb
    go_wp2_with fail
    refine (HAW.out _).mono ?_
    rintro e w3 ⟨rfl, hb⟩
    have HB3 := Lib.hid (HB2.out.trans (hb.mono HS2.out))
    clear hb
    go_wp2_with fail
    go_ret
    exact ⟨rfl, by rw [HB.out]; exact HB3.out⟩
  | ok t =>
  have he : e = .returned (.tuple #[.string ⟨t.toArray⟩, .int .i64 0]) := he
  subst he
  obtain ⟨a, b, d, rfl, rfl, hd, -, ha, hb, hpl, -, -, -, ht⟩ := HGI.out t rfl
  have hdb := HGB.out t rfl
  simp only [Int.toNat_natCast] at hdb
  rw [show (8 : Int).toNat = 8 from rfl] at hdb
  obtain ⟨S, hS⟩ : ∃ S : ByteArray, S = ⟨t.toArray⟩ := ⟨_, rfl⟩
  have hSd : S.data.toList = t := by rw [hS]
  have hSs : S.size ≤ 1048576 := by
    have e : S.size = S.data.toList.length := by simp
    rw [e, hSd]; exact ht
  have HDE : Hid (∀ w, Calls Tryz.prog 26 #[.string S] w fun e w' => (∃ v vm, e = .returned (.tuple #[.agg #[.int .i64 (a : Int), .int .i64 (b : Int), v], vm, .int .i64 0]) ∧ PRow w' v (px.map (cvP 8)) ∧ MRow w' vm ms) ∧ Below w.heap.size w w') := fun w => by
    have h := decode_any S w (by omega)
    rw [hSd, hdb] at h
    exact h
  have hpn : px.length ≤ 65536 := by rw [hpl]; exact Nat.mul_le_mul ha.2 hb.2
  have HSS := Lib.hid hSs
  rw [← hS]
  clear hS hSd hdb ht hd HGE HGI HGB hpl hSs
  go_wp2_with fail
  refine (HAW.out _).mono ?_
  rintro e w2 ⟨rfl, hb⟩
  have HB2 := Lib.hid (HB1.out.trans (hb.mono (Nat.le_of_lt HK1.out.lt)))
  have HK2 := Lib.hid (HK1.out.keep hb)
  have HP2 := Lib.hid (HP1.out.below hb)
  have HM2 := Lib.hid (HM1.out.below hb)
  clear hb HB1 HK1 HP1 HM1
  have a0 : w2.cell? ⟨B, 0, none⟩ = some (.int .i64 (a : Int)) := HK2.out.cell 0
  have a1 : w2.cell? ⟨B, 1, none⟩ = some (.int .i64 (b : Int)) := HK2.out.cell 1
  have HL2 := Lib.hid (lp2_zero w2 a b)
  unfold imgI at HL2
  go_upto_region 8 with fail
  clear a0 a1
  generalize w2.alloc (.cells #[.int .i64 (a : Int), .int .i64 (b : Int), .slice none 0 0] 36) = w3 at *
  obtain ⟨I, hI⟩ : ∃ I, I = w2.heap.size := ⟨_, rfl⟩
  rw [← hI] at HL2 ⊢
  have HI := Lib.hid hI
  have HBI : Hid (B < I) := by show _ < _; rw [hI]; exact HK2.out.lt
  clear hI
  have HKK : Hid (∀ wr, Below I w2 wr → Blk wr B 36 #[.int .i64 (a : Int), .int .i64 (b : Int), .slice xp px.length cp] ∧ PRow wr (.slice xp px.length cp) px ∧ MRow wr (.slice xm ms.length cm) ms ∧ Below B w wr) := fun wr h => by
    rw [HI.out] at h
    exact ⟨HK2.out.keep h, HP2.out.below h, HM2.out.below h, HB2.out.trans (h.mono (Nat.le_of_lt HK2.out.lt))⟩
  have a2 : w3.cell? ⟨B, 2, none⟩ = some (.slice xp px.length cp) := (HKK.out _ HL2.out.be).1.cell 2
  go_wp2_with fail
  clear a2
  go_loopw [42] (fun vi wr => ∃ (i : Nat) (pv : Value) (l : List Px), vi = .int .i64 i ∧ i ≤ px.length ∧ Hid (l = (px.take i).map (cvP 8)) ∧ Hid (LP2 w2 wr I a b pv l)) (fun vi _ => px.length - (intOf vi).toNat)
  case atStart => exact ⟨0, _, [], rfl, Nat.zero_le _, rfl, HL2.out⟩
  case round =>
    clear HL2
    obtain ⟨i, pv, l, rfl, hi, hl, hlp⟩ := hrel
    by_cases hlt : i < px.length
    · have hdl : decide ((i : Int) < (px.length : Int)) = true := by simp; omega
      have i1 : (i : Int) < (px.length : Int) := by omega
      have hll : l.length ≤ 65536 := by rw [hl.out, List.length_map, List.length_take]; omega
      obtain ⟨g1, o1, hxp, hc1⟩ : ∃ g1 o1, xp = some ⟨g1, o1, none⟩ ∧ PCell wr g1 o1 i px[i] := by
        obtain ⟨x', c', hve, -, -, -, hcl⟩ := (HKK.out _ hlp.out.be).2.1
        obtain ⟨rfl, rfl⟩ : xp = x' ∧ cp = c' := by injection hve with e1 e2 e3; exact ⟨e1, e3⟩
        obtain ⟨g1, o1, h1, h2⟩ := hcl (by rintro rfl; simp at hlt)
        exact ⟨g1, o1, h1, h2 i hlt⟩
      subst hxp
      obtain ⟨p, hp⟩ : ∃ p, px[i] = p := ⟨_, rfl⟩
      have HNX : Hid (∀ q, cvP 8 p = q → l ++ [q] = (px.take (i + 1)).map (cvP 8)) := fun q hq => by
        rw [List.take_succ_eq_append_getElem hlt, List.map_append, ← hl.out, hp, ← hq]; rfl
      rw [hp] at hc1
      obtain ⟨p0, p1, p2, p3⟩ := p
      obtain ⟨q0, q1, q2, q3⟩ := hc1
      simp only at q0 q1 q2 q3
      have HV := Lib.hid (Blk.new wr 41 #[.int .i64 p0, .int .i64 p1, .int .i64 p2, .int .i64 p3])
      have HLV := Lib.hid (hlp.out.alloc (.cells #[.int .i64 p0, .int .i64 p1, .int .i64 p2, .int .i64 p3] 41))
      have HIV : Hid (I < wr.heap.size) := hlp.out.lt
      have HOV := Lib.hid (lp2_own hlp.out)
      clear hp hl hlp
      go_upto_region 11 with fail
      clear q0 q1 q2 q3
      generalize wr.alloc (.cells #[.int .i64 p0, .int .i64 p1, .int .i64 p2, .int .i64 p3] 41) = wv at *
      generalize wr.heap.size = V at *
      have s3 : wv.cell? ⟨V, 3, none⟩ = some (.int .i64 p3) := HV.out.cell 3
      go_wp2_with fail
      refine (HT.out p3 _).mono ?_
      rintro e w' ⟨rfl, hw⟩
      subst hw
      by_cases hz : to8I p3 = 0
      · have eq0 : (to8I p3 == 0) = true := by simp [hz]
        have HCZ : Hid (cvP 8 (p0, p1, p2, p3) = (0, 0, 0, 0)) := by show _ = _; unfold cvP; rw [if_neg (by decide), if_pos hz]
        clear hz
        have s0 : wv.cell? ⟨V, 0, none⟩ = some (.int .i64 p0) := HV.out.cell 0
        have s1 : wv.cell? ⟨V, 1, none⟩ = some (.int .i64 p1) := HV.out.cell 1
        have s2 : wv.cell? ⟨V, 2, none⟩ = some (.int .i64 p2) := HV.out.cell 2
        have z0 := HV.out.frozen 0
        have z1 := HV.out.frozen 1
        have z2 := HV.out.frozen 2
        have z3 := HV.out.frozen 3
        have HVd : Hid (Blk ((((wv.setCell ⟨V, 0, none⟩ (.int .i64 0)).setCell ⟨V, 1, none⟩ (.int .i64 0)).setCell ⟨V, 2, none⟩ (.int .i64 0)).setCell ⟨V, 3, none⟩ (.int .i64 0)) V 41 #[.int .i64 0, .int .i64 0, .int .i64 0, .int .i64 0]) := ((((HV.out.put 0 (.int .i64 0)).put 1 (.int .i64 0)).put 2 (.int .i64 0)).put 3 (.int .i64 0))
        have HLV2 := Lib.hid ((((HLV.out.put HIV.out HOV.out 0 (.int .i64 0)).put HIV.out HOV.out 1 (.int .i64 0)).put HIV.out HOV.out 2 (.int .i64 0)).put HIV.out HOV.out 3 (.int .i64 0))
        go_upto_region 15 with fail
        generalize (((wv.setCell ⟨V, 0, none⟩ (.int .i64 0)).setCell ⟨V, 1, none⟩ (.int .i64 0)).setCell ⟨V, 2, none⟩ (.int .i64 0)).setCell ⟨V, 3, none⟩ (.int .i64 0) = wd at *
        clear s0 s1 s2 s3 z0 z1 z2 z3 eq0 HLV HV
        have HLV := HLV2
        clear HLV2
        obtain ⟨xo, co, hpv⟩ := pown_shape HLV.out.po
        subst hpv
        have b2 : wd.cell? ⟨I, 2, none⟩ = some (.slice xo l.length co) := HLV.out.ix.cell 2
        have t0 : wd.cell? ⟨V, 0, none⟩ = some (.int .i64 0) := HVd.out.cell 0
        have t1 : wd.cell? ⟨V, 1, none⟩ = some (.int .i64 0) := HVd.out.cell 1
        have t2 : wd.cell? ⟨V, 2, none⟩ = some (.int .i64 0) := HVd.out.cell 2
        have t3 : wd.cell? ⟨V, 3, none⟩ = some (.int .i64 0) := HVd.out.cell 3
        have HQ := Lib.hid (HNX.out (0, 0, 0, 0) (HCZ.out))
        clear HNX
        go_wp2_with (at_builtin; refine wpList_app el_pix HLV.out.po (Nat.le_of_lt HLV.out.lt) rfl rfl rfl (m := 0) rfl (by simp [Value.oneCell']) rfl (by omega) (by unfold maxLen; omega) ?_)
        intro r2 cap2 w4 ho2 hg2 _
        have hpo : POwn w4 I (.slice (some ⟨r2, 0, none⟩) (l.length + 1) cap2) (l ++ [(0, 0, 0, 0)]) := pown_more (n := l.length + 1) ho2 [(0, 0, 0, 0)] (by simp [pcells, pixA, pxC]) rfl
        obtain ⟨hi4, hn4⟩ := lp2_next HLV.out hpo hg2
        have HN4 := Lib.hid hn4
        have k2 : w4.cell? ⟨I, 2, none⟩ = some (.slice xo l.length co) := hi4.cell 2
        have f2 := hi4.frozen 2
        clear ho2 hg2 hpo hn4 hi4 b2 t0 t1 t2 t3 HLV
        go_wp2_with fail
        go_roundw
        case rel => exact ⟨i + 1, _, l ++ [(0, 0, 0, 0)], by go_num, by omega, HQ, HN4.out⟩
        case measure => simp [intOf]; omega
      · have eq0 : (to8I p3 == 0) = false := by simpa using hz
        have HCF : Hid (cvP 8 (p0, p1, p2, p3) = (f p0, f p1, f p2, f p3)) := by show _ = _; unfold cvP; rw [if_neg (by decide), if_neg hz]; simp only [HF0.out]
        clear hz
        go_upto_region 14 with fail
        clear s3 eq0
        obtain ⟨K0, hK0⟩ : ∃ K0, K0 = wv.heap.size := ⟨_, rfl⟩
        have HBU : Hid (∀ u : BW K0 wv, Below wv.heap.size wv u.w) := fun u => u.b.mono (by omega)
        have c0 : ∀ u : BW K0 wv, u.w.cell? ⟨V, 0, none⟩ = some (.int .i64 p0) := fun u => (HV.out.keep (HBU.out u)).cell 0
        have c1 : ∀ u : BW K0 wv, u.w.cell? ⟨V, 1, none⟩ = some (.int .i64 p1) := fun u => (HV.out.keep (HBU.out u)).cell 1
        have c2 : ∀ u : BW K0 wv, u.w.cell? ⟨V, 2, none⟩ = some (.int .i64 p2) := fun u => (HV.out.keep (HBU.out u)).cell 2
        have c3 : ∀ u : BW K0 wv, u.w.cell? ⟨V, 3, none⟩ = some (.int .i64 p3) := fun u => (HV.out.keep (HBU.out u)).cell 3
        clear hK0
        refine wp_region_bw_tail K0 wv 17 (Below.refl _ _) (by kernel_rfl) (by kernel_rfl) ?_
        simp only [List.take_succ_cons, List.take_zero, List.drop_succ_cons, List.drop_zero]
        repeat (go_big_quiet_step (first | (go_at_call 24; exact calls_bw_same (HT.out _ _)) | (go_at_call 25; exact calls_bw_same (HF.out _ _))))
        refine wpQuiet_nil ?_
        rintro _ ⟨v9, rfl⟩
        have HV9 := Lib.hid (HV.out.keep (HBU.out v9))
        have HL9 := Lib.hid (HLV.out.below (HBU.out v9))
        generalize v9.w = w9 at *
        clear HBU c0 c1 c2 c3
        have s0 : w9.cell? ⟨V, 0, none⟩ = some (.int .i64 p0) := HV9.out.cell 0
        have s1 : w9.cell? ⟨V, 1, none⟩ = some (.int .i64 p1) := HV9.out.cell 1
        have s2 : w9.cell? ⟨V, 2, none⟩ = some (.int .i64 p2) := HV9.out.cell 2
        have s3 : w9.cell? ⟨V, 3, none⟩ = some (.int .i64 p3) := HV9.out.cell 3
        have z0 := HV9.out.frozen 0
        have z1 := HV9.out.frozen 1
        have z2 := HV9.out.frozen 2
        have z3 := HV9.out.frozen 3
        have HVd : Hid (Blk ((((w9.setCell ⟨V, 0, none⟩ (.int .i64 (f p0))).setCell ⟨V, 1, none⟩ (.int .i64 (f p1))).setCell ⟨V, 2, none⟩ (.int .i64 (f p2))).setCell ⟨V, 3, none⟩ (.int .i64 (f p3))) V 41 #[.int .i64 (f p0), .int .i64 (f p1), .int .i64 (f p2), .int .i64 (f p3)]) := ((((HV9.out.put 0 (.int .i64 (f p0))).put 1 (.int .i64 (f p1))).put 2 (.int .i64 (f p2))).put 3 (.int .i64 (f p3)))
        have HLV2 := Lib.hid ((((HL9.out.put HIV.out HOV.out 0 (.int .i64 (f p0))).put HIV.out HOV.out 1 (.int .i64 (f p1))).put HIV.out HOV.out 2 (.int .i64 (f p2))).put HIV.out HOV.out 3 (.int .i64 (f p3)))
        clear HLV
        have HLV := HLV2
        clear HLV2
        go_upto_region 15 with fail
        generalize (((w9.setCell ⟨V, 0, none⟩ (.int .i64 (f p0))).setCell ⟨V, 1, none⟩ (.int .i64 (f p1))).setCell ⟨V, 2, none⟩ (.int .i64 (f p2))).setCell ⟨V, 3, none⟩ (.int .i64 (f p3)) = wd at *
        clear s0 s1 s2 s3 z0 z1 z2 z3 HV HV9 HL9
        obtain ⟨xo, co, hpv⟩ := pown_shape HLV.out.po
        subst hpv
        have b2 : wd.cell? ⟨I, 2, none⟩ = some (.slice xo l.length co) := HLV.out.ix.cell 2
        have t0 : wd.cell? ⟨V, 0, none⟩ = some (.int .i64 (f p0)) := HVd.out.cell 0
        have t1 : wd.cell? ⟨V, 1, none⟩ = some (.int .i64 (f p1)) := HVd.out.cell 1
        have t2 : wd.cell? ⟨V, 2, none⟩ = some (.int .i64 (f p2)) := HVd.out.cell 2
        have t3 : wd.cell? ⟨V, 3, none⟩ = some (.int .i64 (f p3)) := HVd.out.cell 3
        have HQ := Lib.hid (HNX.out ((f p0), (f p1), (f p2), (f p3)) (HCF.out))
        clear HNX
        go_wp2_with (at_builtin; refine wpList_app el_pix HLV.out.po (Nat.le_of_lt HLV.out.lt) rfl rfl rfl (m := 0) rfl (by simp [Value.oneCell']) rfl (by omega) (by unfold maxLen; omega) ?_)
        intro r2 cap2 w4 ho2 hg2 _
        have hpo : POwn w4 I (.slice (some ⟨r2, 0, none⟩) (l.length + 1) cap2) (l ++ [((f p0), (f p1), (f p2), (f p3))]) := pown_more (n := l.length + 1) ho2 [((f p0), (f p1), (f p2), (f p3))] (by simp [pcells, pixA, pxC]) rfl
        obtain ⟨hi4, hn4⟩ := lp2_next HLV.out hpo hg2
        have HN4 := Lib.hid hn4
        have k2 : w4.cell? ⟨I, 2, none⟩ = some (.slice xo l.length co) := hi4.cell 2
        have f2 := hi4.frozen 2
        clear ho2 hg2 hpo hn4 hi4 b2 t0 t1 t2 t3 HLV
        go_wp2_with fail
        go_roundw
        case rel => exact ⟨i + 1, _, l ++ [((f p0), (f p1), (f p2), (f p3))], by go_num, by omega, HQ, HN4.out⟩
        case measure => simp [intOf]; omega
    · have hdl : decide ((i : Int) < (px.length : Int)) = false := by simp; omega
      have HLL : Hid (l = px.map (cvP 8)) := by show _ = _; rw [hl.out, List.take_of_length_le (by omega)]
      clear hl
      go_wp2_with fail
      refine (HDE.out _).mono ?_
      rintro e w4 ⟨⟨v4, vm4, rfl, hp4, hm4⟩, hb⟩
      obtain ⟨x4, c4, rfl, -⟩ := id hp4
      obtain ⟨y4, d4, rfl, -⟩ := id hm4
      obtain ⟨n4, hn4⟩ : ∃ n, (px.map (cvP 8)).length = n := ⟨_, rfl⟩
      rw [hn4] at hp4 ⊢
      have hb4 := (Below.refl w4.heap.size w4).alloc (Nat.le_refl _) (.cells #[.int .i64 (a : Int), .int .i64 (b : Int), .slice x4 n4 c4] 36)
      have HL4 := Lib.hid ((hlp.out.below hb).below hb4)
      have HP4 := Lib.hid (hp4.below hb4)
      have HM4 := Lib.hid (hm4.below hb4)
      have HK4 := Lib.hid (Blk.new w4 36 #[.int .i64 (a : Int), .int .i64 (b : Int), .slice x4 n4 c4])
      clear hb hb4 hp4 hm4 hlp
      go_upto_region 18 with fail
      generalize w4.alloc (.cells #[.int .i64 (a : Int), .int .i64 (b : Int), .slice x4 n4 c4] 36) = w5 at *
      generalize w4.heap.size = K at *
      have b0 : w5.cell? ⟨K, 0, none⟩ = some (.int .i64 (a : Int)) := HK4.out.cell 0
      have b1 : w5.cell? ⟨K, 1, none⟩ = some (.int .i64 (b : Int)) := HK4.out.cell 1
      have b2 : w5.cell? ⟨K, 2, none⟩ = some (.slice x4 n4 c4) := HK4.out.cell 2
      have a0 : w5.cell? ⟨I, 0, none⟩ = some (.int .i64 (a : Int)) := HL4.out.ix.cell 0
      have a1 : w5.cell? ⟨I, 1, none⟩ = some (.int .i64 (b : Int)) := HL4.out.ix.cell 1
      have a2 : w5.cell? ⟨I, 2, none⟩ = some pv := HL4.out.ix.cell 2
      have HPW : Hid (PRow w5 pv (px.map (cvP 8))) := by show PRow _ _ _; rw [← HLL.out]; exact POwn.prow HL4.out.po
      have HSA := Lib.hid (same_any a b (.slice x4 n4 c4) pv _ w5 HP4.out HPW.out)
      simp only [imgI] at HSA
      go_wp2_with fail
      refine HSA.out.mono ?_
      rintro e w6 ⟨rfl, hb⟩
      have HL6 := Lib.hid (HL4.out.below hb)
      have HM6 := Lib.hid (HM4.out.below hb)
      clear hb b0 b1 b2 a0 a1 a2 HSA HL4 HM4
      go_wp2_with fail
      refine (sameMeta_any _ _ ms _ HM6.out (HKK.out _ HL6.out.be).2.2.1).mono ?_
      rintro e w7 ⟨rfl, hb⟩
      have HL7 := Lib.hid (HL6.out.below hb)
      clear hb HL6 HM6
      have dS : decide ((S.size : Int) ≤ 1048576) = true := by have := HSS.out; simp; omega
      have hS1 : S.size ≤ 1048576 := HSS.out
      go_wp2_with fail
      go_ret
      exact ⟨rfl, by rw [HB.out]; exact (HKK.out _ HL7.out.be).2.2.2⟩
theorem lawBack (v : Value) (b : Bool) (mv : Value) (w : World) (hv : IArg w v) (hm : MArg w mv) :
    Calls Tryz.prog 7 #[v, .bool b, mv] w fun e w' => e = .returned (.bool true) ∧ Below w.heap.size w w' := by
  cases b
  · exact back8 v mv w hv hm
  · exact back16 v mv w hv hm
end Go.Proofs.YthbejefodelpkaaGreat
