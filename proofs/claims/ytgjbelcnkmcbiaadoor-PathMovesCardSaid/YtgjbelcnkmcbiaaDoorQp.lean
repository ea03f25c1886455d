/-
  Walk: the function that adds a point to a polygon, unless it is its last one (inside path.extend).
-/
import Derived.Test.YtgjbelcnkmcbiaaDoorQo
namespace Go.Proofs.YtgjbelcnkmcbiaaDoor
open Go.RowKit

def pushP (l : List Pt) (q : Pt) : List Pt := if l.getLast? = some q then l else l ++ [q]
theorem last_get (l : List Pt) (h : l ≠ []) : l.getLast? = some (l[l.length - 1]'(by have := List.length_pos_iff.2 h; omega)) := by
  rw [List.getLast?_eq_getElem?, List.getElem?_eq_getElem]
theorem World.size_setCell' (w : World) (p : Addr) (u : Value) : (w.setCell p u).heap.size = w.heap.size := by simp [World.setCell]
set_option maxRecDepth 100000 in
set_option maxHeartbeats 2000000 in
theorem add_any (l : List Pt) (q : Pt) (v : Value) (B k0 : Nat) (w : World) (hb : Blk w k0 37 #[v]) (ho : QOwn w B v l) (hB : B ≤ w.heap.size) (hl : l ≠ []) (hm : l.length ≤ 1000000) :
    Calls Tryd.prog 53 #[.agg (ptC q), .pointer (some ⟨k0, 0, none⟩)] w fun e w' => e = .returned (.tuple #[]) ∧ ∃ v', Blk w' k0 37 #[v'] ∧ QOwn w' B v' (pushP l q) ∧ Grw k0 v.ownBlock w w' ∧ (v'.ownBlock = v.ownBlock ∨ ∃ g, v'.ownBlock = some g ∧ w.heap.size ≤ g) := by
  obtain ⟨qx, qy⟩ := q
  obtain ⟨g, cap, rfl, hg1, hg2, hg3, hg4⟩ := qown_shape ho hl
  have hlen := List.length_pos_iff.2 hl
  obtain ⟨zx, zy, hz⟩ : ∃ zx zy, l[l.length - 1]'(by omega) = (zx, zy) := ⟨_, _, rfl⟩
  have hcl := pcells_get l (l.length - 1) (by omega)
  rw [hz] at hcl
  have hc1 := World.ownsRow.cellAt ho ((l.length - 1) * 2) (by omega)
  have hc2 := World.ownsRow.cellAt ho ((l.length - 1) * 2 + 1) (by omega)
  rw [hcl.1] at hc1
  rw [hcl.2] at hc2
  have HP : Hid (pushP l (qx, qy) = if ((qx, qy) : Pt) = (zx, zy) then l else l ++ [(qx, qy)]) := by
    show _ = _
    unfold pushP
    rw [last_get l hl, hz]
    by_cases h : ((qx, qy) : Pt) = (zx, zy)
    · rw [if_pos h, if_pos (by rw [h])]
    · rw [if_neg h, if_neg (fun e => h (by injection e with e; exact e.symm))]
  have hbq := Blk.new w 32 #[.int .i64 qx, .int .i64 qy]
  have hk0 := hb.lt
  have hgk := own_ne hb ho (by decide)
  have hb1 := hb.alloc (.cells #[.int .i64 qx, .int .i64 qy] 32)
  have hb1c := hb1.cell 0
  have HO1 := Lib.hid (World.ownsRow.alloc ho (.cells #[.int .i64 qx, .int .i64 qy] 32))
  have hd1 : (w.alloc (.cells #[.int .i64 qx, .int .i64 qy] 32)).cell? ⟨g, (l.length - 1) * 2, none⟩ = some (.int .i64 zx) := (((Below.refl _ w).alloc (Nat.le_refl _) _).cell (p := ⟨g, _, none⟩) hg4).trans hc1
  have hd2 : (w.alloc (.cells #[.int .i64 qx, .int .i64 qy] 32)).cell? ⟨g, (l.length - 1) * 2 + 1, none⟩ = some (.int .i64 zy) := (((Below.refl _ w).alloc (Nat.le_refl _) _).cell (p := ⟨g, _, none⟩) hg4).trans hc2
  have HG1 : Hid (∀ nq o w2, (((w.alloc (.cells #[.int .i64 qx, .int .i64 qy] 32)).drewN nq).alloc o).grownBy w2 (some g) → Grw k0 (some g) w w2) := fun nq o w2 h => by
    refine ⟨h.os, h.tape, h.output, by have := h.size; simp at this; omega, fun k hk hn hr => ?_⟩
    rw [h.block k (by simp; omega) hr]
    exact (Below.heap_alloc _ _ _ (by simp; omega)).trans (Below.heap_alloc _ _ _ hk)
  have HS1 : Hid (B ≤ (w.alloc (.cells #[.int .i64 qx, .int .i64 qy] 32)).heap.size ∧ (w.alloc (.cells #[.int .i64 qx, .int .i64 qy] 32)).heap.size = w.heap.size + 1) := by show _ ∧ _; simp; omega
  have HGA : Hid (∀ nq, Grw k0 (some g) w ((w.alloc (.cells #[.int .i64 qx, .int .i64 qy] 32)).drewN nq)) := fun nq => ⟨rfl, rfl, rfl, by simp, fun k hk hn hr => Below.heap_alloc _ _ _ hk⟩
  have hgk2 := Lib.hid hgk
  clear hc1 hc2 hcl hz ho hb hgk
  unfold ptC
  simp only
  go_enter Tryd.func53, Tryd.ntmps53
  go_upto_region 1 with fail
  generalize w.alloc (.cells #[.int .i64 qx, .int .i64 qy] 32) = wz at *
  generalize hsz : w.heap.size = kq at *
  have HSZ := Lib.hid hsz
  clear hsz
  have q0 : wz.cell? ⟨kq, 0, none⟩ = some (.int .i64 qx) := hbq.cell 0
  have q1 : wz.cell? ⟨kq, 1, none⟩ = some (.int .i64 qy) := hbq.cell 1
  have HB1 := Lib.hid hb1
  have f0 : wz.frozen? ⟨k0, 0, none⟩ = false := hb1.frozen 0
  have hy0 : wz.cell? ⟨k0, 0, none⟩ = some (.slice (some ⟨g, 0, none⟩) l.length cap) := hb1c
  clear hbq hb1 hb1c
  have HEQ := fun w => eqPt qx qy zx zy w
  generalize hn : l.length = n at *
  have HN := Lib.hid hn
  clear hn
  have hn1 : wrap64 ((n : Int) - 1) = ((n - 1 : Nat) : Int) := by rw [wrap64_of _ (by omega)]; omega
  have hn2 : ((n - 1 : Nat) : Int) < (n : Int) := by omega
  have hn3 : (((n - 1 : Nat) : Int)).toNat = n - 1 := by omega
  have hn4 : (0 : Int) ≤ ((n - 1 : Nat) : Int) := by omega
  have hn5 : (1 : Int) ≤ (n : Int) := by omega
  have hn6 : (n : Int) - 1 < (n : Int) := by omega
  have hn7 : ((n : Int) - 1).toNat = n - 1 := by omega
  go_quiet (fail)
  have HO2 : Hid ((wz.drewN nq).ownsRow B 32 2 (.slice (some ⟨g, 0, none⟩) n cap) n (pcells l)) := HO1.out
  have HB2 : Hid (Blk (wz.drewN nq) k0 37 #[.slice (some ⟨g, 0, none⟩) n cap]) := HB1.out
  have HGA2 := Lib.hid (HGA.out nq)
  have HG2 := Lib.hid (fun o w2 h => HG1.out nq o w2 h)
  have z0 : (wz.drewN nq).cell? ⟨kq, 0, none⟩ = some (.int .i64 qx) := q0
  have z1 : (wz.drewN nq).cell? ⟨kq, 1, none⟩ = some (.int .i64 qy) := q1
  have z2 : (wz.drewN nq).cell? ⟨k0, 0, none⟩ = some (.slice (some ⟨g, 0, none⟩) n cap) := hy0
  have HS2 : Hid (B ≤ (wz.drewN nq).heap.size ∧ (wz.drewN nq).heap.size = kq + 1) := HS1.out
  clear HO1 HB1 HGA HG1 q0 q1 hy0 HS1 f0 hd1 hd2
  generalize wz.drewN nq = wy at *
  cases hqz : ((qx, qy) == ((zx, zy) : Pt)) with
  | true =>
    have hp := HP.out
    rw [if_pos (eq_of_beq hqz)] at hp
    go_wp2_with fail
    go_end0
    refine ⟨rfl, _, HB2.out, by rw [hp]; unfold QOwn; rw [HN.out]; exact HO2.out, HGA2.out, .inl rfl⟩
  | false =>
    have hp := HP.out
    rw [if_neg (fun h => by rw [h] at hqz; simp at hqz)] at hp
    have HP2 := Lib.hid hp
    clear hp HP
    have hmax : maxLen = 9223372036854775807 := rfl
    go_wp2_with (refine wpList_app (P := Tryd.prog) el_pt (hown := HO2.out) (by exact HS2.out.1) rfl rfl rfl (m := 0) (cs := #[.int .i64 qx, .int .i64 qy]) rfl (by intro u hu; simp at hu; rcases hu with rfl | rfl <;> rfl) rfl (by omega) (by omega) ?_)
    intro r cap' w5 h5 hg5 hr5
    have HB5 : Hid (Blk w5 k0 37 #[.slice (some ⟨g, 0, none⟩) n cap]) := (hg5.block k0 (by have := HS2.out.2; simp; omega) (by intro e; injection e with e; exact hgk2.out e)).trans (HB2.out.alloc _)
    have g0 : w5.cell? ⟨k0, 0, none⟩ = some (.slice (some ⟨g, 0, none⟩) n cap) := HB5.out.cell 0
    have f0 : w5.frozen? ⟨k0, 0, none⟩ = false := HB5.out.frozen 0
    have hrk : r ≠ k0 := by
      rcases hr5 with h | h
      · injection h with h; intro e; exact hgk2.out (by rw [← e, ← h])
      · have := HS2.out.2; omega
    go_wp2_with fail
    go_end0
    have hq5 := qown_more h5 [(qx, qy)] rfl (by rw [HN.out]; rfl)
    refine ⟨rfl, _, HB5.out.put 0 _, ?_, ?_, ?_⟩
    · rw [HP2.out]
      exact ((Fr.refl k0 [37] w5).put HB5.out (Nat.le_refl _) (by simp) 0 _).owns hq5 (by decide)
    · have hg := HG2.out _ _ hg5
      refine ⟨hg.os, hg.tape, hg.output, by have := hg.size; rw [World.size_setCell']; exact this, fun k hk hn hr => ?_⟩
      exact (Below.heap_setCell w5 _ _ k (by exact hn)).trans (hg.block k hk hn hr)
    · rcases hr5 with h | h
      · injection h with h; left; exact congrArg some h.symm
      · right; exact ⟨r, rfl, by have := HS2.out.2; have := HSZ.out; omega⟩
end Go.Proofs.YtgjbelcnkmcbiaaDoor
