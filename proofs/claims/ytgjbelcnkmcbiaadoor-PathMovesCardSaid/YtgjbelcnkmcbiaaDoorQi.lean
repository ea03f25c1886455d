/-
  Walks: quad, cubic, push of the reference.
-/
import Derived.Test.YtgjbelcnkmcbiaaDoorQe
import Derived.Test.YtgjbelcnkmcbiaaDoorBw
namespace Go.Proofs.YtgjbelcnkmcbiaaDoor
open Go.RowKit

set_option maxRecDepth 100000 in
set_option maxHeartbeats 2000000 in
theorem rquad_any (a b c k : Int) (w : World) (h1 : 1 ≤ k) (h8 : k ≤ 8) (ha : near24 a) (hb : near24 b) (hc : near24 c) :
    Calls Tryd.prog 56 #[.int .i64 a, .int .i64 b, .int .i64 c, .int .i64 k] w fun e w' => e = .returned (.int .i64 (qdI a b c k)) ∧ ∃ n, w' = w.drewN n := by
  obtain ⟨A, Bq, C, x1, x2, x3, x4, S, -, -, -, -, -, e1, e2, e3, e4, e5, e6, e7, e8, -, -, -, -, -, r1, -, b1, b2, -, -⟩ := quad_b a b c a b c k h1 h8 ha hb hc ha hb hc
  have HD := Lib.hid (fun w => rdivI_any S 64 w b1 b2 (by decide) (by decide))
  rw [r1] at HD
  generalize qdI a b c k = z at *
  clear r1 b1 b2 ha hb hc
  go_enter Tryd.func56, Tryd.ntmps56
  go_wp2_with fail
  refine (HD.out _).mono ?_
  rintro e w' ⟨rfl, n, rfl⟩
  go_wp2_with fail
  go_ret
  exact ⟨rfl, _, rfl⟩
set_option maxRecDepth 100000 in
set_option maxHeartbeats 2000000 in
theorem rcubic_any (a b c d k : Int) (w : World) (h1 : 1 ≤ k) (h8 : k ≤ 16) (ha : near24 a) (hb : near24 b) (hc : near24 c) (hd : near24 d) :
    Calls Tryd.prog 57 #[.int .i64 a, .int .i64 b, .int .i64 c, .int .i64 d, .int .i64 k] w fun e w' => e = .returned (.int .i64 (cbI a b c d k)) ∧ ∃ n, w' = w.drewN n := by
  obtain ⟨A0, A, B1, Bq, C1, C, D0, D, x1, x2, x3, x4, x5, x6, S, -, -, -, -, -, -, -, e1, e2, e3, e4, e5, e6, e7, e8, e9, e10, e11, e12, e13, e14, e15, -, -, -, -, -, -, -, r1, -, b1, b2, -, -⟩ := cubic_b a b c d a b c d k h1 h8 ha hb hc hd ha hb hc hd
  have HD := Lib.hid (fun w => rdivI_any S 4096 w b1 b2 (by decide) (by decide))
  rw [r1] at HD
  generalize cbI a b c d k = z at *
  clear r1 b1 b2 ha hb hc hd
  go_enter Tryd.func57, Tryd.ntmps57
  go_wp2_with fail
  refine (HD.out _).mono ?_
  rintro e w' ⟨rfl, n, rfl⟩
  go_wp2_with fail
  go_ret
  exact ⟨rfl, _, rfl⟩

theorem GB.trans {w w1 w2 : World} {r : Option Nat} (h : w.grownBy w1 r) (h' : w1.grownBy w2 r) : w.grownBy w2 r :=
  ⟨h'.os.trans h.os, h'.tape.trans h.tape, h'.output.trans h.output, Nat.le_trans h.size h'.size, fun k hk hr => (h'.block k (Nat.lt_of_lt_of_le hk h.size) hr).trans (h.block k hk hr)⟩
theorem GB.drewN {w w1 : World} {r : Option Nat} (h : w.grownBy w1 r) (n : Nat) : w.grownBy (w1.drewN n) r := ⟨h.os, h.tape, h.output, h.size, h.block⟩
set_option maxRecDepth 100000 in
set_option maxHeartbeats 2000000 in
theorem push_any (l : List Pt) (qx qy : Int) (v : Value) (B : Nat) (w : World) (ho : QOwn w B v l) (hB : B ≤ w.heap.size) (hm : l.length ≤ 1000000) :
    Calls Tryd.prog 55 #[v, .agg #[.int .i64 qx, .int .i64 qy]] w fun e w' => ∃ v', e = .returned v' ∧ QOwn w' B v' (pushP l (qx, qy)) ∧ w.grownBy w' v.ownBlock ∧ (v'.ownBlock = v.ownBlock ∨ ∃ g, v'.ownBlock = some g ∧ w.heap.size ≤ g) := by
  have hbq := Blk.new w 32 #[.int .i64 qx, .int .i64 qy]
  have HO1 := Lib.hid (World.ownsRow.alloc ho (.cells #[.int .i64 qx, .int .i64 qy] 32))
  have HF1 := Lib.hid (World.grownBy_alloc w (.cells #[.int .i64 qx, .int .i64 qy] 32) v.ownBlock)
  have HSZ : Hid (w.heap.size ≤ (w.alloc (.cells #[.int .i64 qx, .int .i64 qy] 32)).heap.size) := by show _ ≤ _; simp
  have HB1 : Hid (B ≤ (w.alloc (.cells #[.int .i64 qx, .int .i64 qy] 32)).heap.size) := by show _ ≤ _; simp; omega
  have hmax : maxLen = 9223372036854775807 := rfl
  by_cases hl : l = []
  · subst hl
    have HP : Hid (pushP [] (qx, qy) = [(qx, qy)]) := rfl
    have hv : v = .slice none 0 0 ∨ ∃ g cap, v = .slice (some ⟨g, 0, none⟩) 0 cap := by
      rcases id ho.2 with ⟨rfl, -⟩ | ⟨g, cap, cur, rfl, _⟩
      · exact .inl rfl
      · exact .inr ⟨g, cap, rfl⟩
    clear ho hm
    rcases hv with rfl | ⟨g, cap, rfl⟩
    all_goals
      go_enter Tryd.func55, Tryd.ntmps55
      go_upto_region 1 with fail
      generalize w.alloc (.cells #[.int .i64 qx, .int .i64 qy] 32) = wz at *
      generalize hkq : w.heap.size = kq at *
      have HKQ := Lib.hid hkq
      clear hkq
      have q0 : wz.cell? ⟨kq, 0, none⟩ = some (.int .i64 qx) := hbq.cell 0
      have q1 : wz.cell? ⟨kq, 1, none⟩ = some (.int .i64 qy) := hbq.cell 1
      clear hbq
      go_quiet (fail)
      have HO2 := Lib.hid (show (wz.drewN nq).ownsRow B 32 2 _ 0 (pcells []) from HO1.out)
      have HF2 := Lib.hid (GB.drewN HF1.out nq)
      have HB2 : Hid (B ≤ (wz.drewN nq).heap.size) := HB1.out
      have HSZ2 : Hid (kq ≤ (wz.drewN nq).heap.size) := HSZ.out
      have z0 : (wz.drewN nq).cell? ⟨kq, 0, none⟩ = some (.int .i64 qx) := q0
      have z1 : (wz.drewN nq).cell? ⟨kq, 1, none⟩ = some (.int .i64 qy) := q1
      clear HO1 HF1 HB1 q0 q1
      generalize wz.drewN nq = wy at *
      go_wp2_with (refine wpList_app (P := Tryd.prog) el_pt (hown := HO2.out) (by exact HB2.out) rfl rfl rfl (m := 0) (cs := #[.int .i64 qx, .int .i64 qy]) rfl (by intro u hu; simp at hu; rcases hu with rfl | rfl <;> rfl) rfl (by omega) (by omega) ?_)
      intro r cap' w5 h5 hg5 hr5
      have HQ5 := Lib.hid (qown_more (l := []) h5 [(qx, qy)] rfl rfl)
      have HF5 := Lib.hid (GB.trans HF2.out (GB.trans (World.grownBy_alloc _ _ _) hg5))
      have HR5 := Lib.hid hr5
      clear h5 hg5 hr5
      go_wp2_with fail
      go_ret
      exact ⟨_, rfl, HQ5.out, HF5.out, (by
        rcases HR5.out with h | h
        · exact .inl h.symm
        · exact .inr ⟨r, rfl, by have := HSZ2.out; have := HKQ.out; omega⟩)⟩
  · obtain ⟨g, cap, rfl, hg1, hg2, hg3, hg4⟩ := qown_shape ho hl
    have hlen := List.length_pos_iff.2 hl
    obtain ⟨zx, zy, hz⟩ : ∃ zx zy, l[l.length - 1]'(by omega) = (zx, zy) := ⟨_, _, rfl⟩
    have hcl := pcells_get l (l.length - 1) (by omega)
    rw [hz] at hcl
    have hc1 := World.ownsRow.cellAt ho ((l.length - 1) * 2) (by omega)
    have hc2 := World.ownsRow.cellAt ho ((l.length - 1) * 2 + 1) (by omega)
    rw [hcl.1] at hc1
    rw [hcl.2] at hc2
    have HP : Hid (pushP l (qx, qy) = if ((zx, zy) : Pt) = (qx, qy) then l else l ++ [(qx, qy)]) := by
      show _ = _
      unfold pushP
      rw [last_get l hl, hz]
      by_cases h : ((zx, zy) : Pt) = (qx, qy)
      · rw [if_pos h, if_pos (by rw [h])]
      · rw [if_neg h, if_neg (fun e => h (by injection e with e))]
    have hd1 : (w.alloc (.cells #[.int .i64 qx, .int .i64 qy] 32)).cell? ⟨g, (l.length - 1) * 2, none⟩ = some (.int .i64 zx) := (((Below.refl _ w).alloc (Nat.le_refl _) _).cell (p := ⟨g, _, none⟩) hg4).trans hc1
    have hd2 : (w.alloc (.cells #[.int .i64 qx, .int .i64 qy] 32)).cell? ⟨g, (l.length - 1) * 2 + 1, none⟩ = some (.int .i64 zy) := (((Below.refl _ w).alloc (Nat.le_refl _) _).cell (p := ⟨g, _, none⟩) hg4).trans hc2
    clear hc1 hc2 hcl hz ho
    go_enter Tryd.func55, Tryd.ntmps55
    go_upto_region 1 with fail
    generalize w.alloc (.cells #[.int .i64 qx, .int .i64 qy] 32) = wz at *
    generalize hkq : w.heap.size = kq at *
    have HKQ := Lib.hid hkq
    clear hkq
    have q0 : wz.cell? ⟨kq, 0, none⟩ = some (.int .i64 qx) := hbq.cell 0
    have q1 : wz.cell? ⟨kq, 1, none⟩ = some (.int .i64 qy) := hbq.cell 1
    clear hbq
    have HEQ := fun w => eqPt zx zy qx qy w
    generalize hn : l.length = n at *
    have HN := Lib.hid hn
    clear hn
    have hn0 : decide ((0 : Int) < (n : Int)) = true := by simp; omega
    have hn1 : wrap64 ((n : Int) - 1) = ((n - 1 : Nat) : Int) := by rw [wrap64_of _ (by omega)]; omega
    have hn2 : ((n - 1 : Nat) : Int) < (n : Int) := by omega
    have hn3 : (((n - 1 : Nat) : Int)).toNat = n - 1 := by omega
    have hn4 : (0 : Int) ≤ ((n - 1 : Nat) : Int) := by omega
    have hn5 : (1 : Int) ≤ (n : Int) := by omega
    have hn6 : (n : Int) - 1 < (n : Int) := by omega
    have hn7 : ((n : Int) - 1).toNat = n - 1 := by omega
    go_quiet (fail)
    have HO2 : Hid ((wz.drewN nq).ownsRow B 32 2 (.slice (some ⟨g, 0, none⟩) n cap) n (pcells l)) := HO1.out
    have HF2 := Lib.hid (GB.drewN HF1.out nq)
    have HB2 : Hid (B ≤ (wz.drewN nq).heap.size) := HB1.out
    have HSZ2 : Hid (kq ≤ (wz.drewN nq).heap.size) := HSZ.out
    have z0 : (wz.drewN nq).cell? ⟨kq, 0, none⟩ = some (.int .i64 qx) := q0
    have z1 : (wz.drewN nq).cell? ⟨kq, 1, none⟩ = some (.int .i64 qy) := q1
    clear HO1 HF1 HB1 q0 q1 hd1 hd2
    generalize wz.drewN nq = wy at *
    cases hqz : ((zx, zy) == ((qx, qy) : Pt)) with
    | true =>
      have hp := HP.out
      rw [if_pos (eq_of_beq hqz)] at hp
      have HP2 := Lib.hid hp
      clear hp HP
      go_wp2_with fail
      go_ret
      exact ⟨_, rfl, by rw [HP2.out]; unfold QOwn; rw [HN.out]; exact HO2.out, HF2.out, .inl rfl⟩
    | false =>
      have hp := HP.out
      rw [if_neg (fun h => by rw [h] at hqz; simp at hqz)] at hp
      have HP2 := Lib.hid hp
      clear hp HP
      go_wp2_with (refine wpList_app (P := Tryd.prog) el_pt (hown := HO2.out) (by exact HB2.out) rfl rfl rfl (m := 0) (cs := #[.int .i64 qx, .int .i64 qy]) rfl (by intro u hu; simp at hu; rcases hu with rfl | rfl <;> rfl) rfl (by omega) (by omega) ?_)
      intro r cap' w5 h5 hg5 hr5
      have HQ5 := Lib.hid (qown_more h5 [(qx, qy)] rfl (by rw [HN.out]; rfl))
      have HF5 := Lib.hid (GB.trans HF2.out (GB.trans (World.grownBy_alloc _ _ _) hg5))
      have HR5 := Lib.hid hr5
      clear h5 hg5 hr5
      go_wp2_with fail
      go_ret
      exact ⟨_, rfl, by rw [HP2.out]; exact HQ5.out, HF5.out, (by
        rcases HR5.out with h | h
        · exact .inl h.symm
        · exact .inr ⟨r, rfl, by have := HSZ2.out; have := HKQ.out; omega⟩)⟩
end Go.Proofs.YtgjbelcnkmcbiaaDoor
