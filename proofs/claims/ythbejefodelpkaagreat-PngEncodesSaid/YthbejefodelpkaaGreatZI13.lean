/-
  Walk: the codes of a dynamic block, in the program.
-/
import Derived.Test.YthbejefodelpkaaGreatZI12
import Derived.Deep.RegionHeld3
namespace Go.Proofs.YthbejefodelpkaaGreat
open Go.RowKit

/-- What holds all through: the two results' blocks, the head, the stream. -/
structure DynI (w0 : World) (zb B : Nat) (Z : Array Value) (s : ByteArray) (most q : Nat) (v : Value) (x y z : Nat) (w : World) : Prop where
  a : Blk w B 164 Z
  c : Blk w (B + 1) 164 Z
  h : Blk w (B + 1 + 1) 181 #[.int .i64 (x : Nat), .int .i64 (y : Nat), .int .i64 (z : Nat)]
  z : Blk w zb 141 (zc s q most v)
  f : Fr zb [141] w0 w
  q : q ≤ 8 * s.size
theorem DynI.read {w0 : World} {zb B : Nat} {Z : Array Value} {s : ByteArray} {most q q' : Nat} {v : Value} {x y z : Nat} {w w' : World} (h : DynI w0 zb B Z s most q v x y z w) (hf : Fr zb [141] w w') (hz : Blk w' zb 141 (zc s q' most v)) (hq : q' ≤ 8 * s.size) : DynI w0 zb B Z s most q' v x y z w' :=
  ⟨hf.blk h.a (by decide), hf.blk h.c (by decide), hf.blk h.h (by decide), hz, h.f.trans hf, hq⟩
theorem DynI.of_below {w0 : World} {zb B : Nat} {Z : Array Value} {s : ByteArray} {most q : Nat} {v : Value} {x y z : Nat} {w w' : World} (h : DynI w0 zb B Z s most q v x y z w) (hb : Below w.heap.size w w') : DynI w0 zb B Z s most q v x y z w' :=
  h.read (Fr.of_below hb _) ((Fr.of_below (B := 0) hb []).blk h.z (by simp)) h.q
theorem Fr.put_new {B : Nat} {T : List TypeId} {a w : World} (h : Fr B T a w) {p : Addr} (hp : a.heap.size ≤ p.block) (u : Value) : Fr B T a (w.setCell p u) :=
  ⟨h.os, h.tape, h.output, by simp [World.setCell]; exact h.size, fun k hk hc => (Below.heap_setCell _ _ _ _ (by omega)).trans (h.block k hk hc)⟩
theorem DynI.put {w0 : World} {zb B : Nat} {Z : Array Value} {s : ByteArray} {most q : Nat} {v : Value} {x y z : Nat} {w : World} (h : DynI w0 zb B Z s most q v x y z w) {k : Nat} {t : TypeId} {cs : Array Value} (hk : Blk w k t cs) (ht : t ≠ 164 ∧ t ≠ 181 ∧ t ≠ 141) (h0 : w0.heap.size ≤ k) (i : Nat) (u : Value) : DynI w0 zb B Z s most q v x y z (w.setCell ⟨k, i, none⟩ u) :=
  ⟨h.a.other (Blk.apart h.a hk ht.1.symm) u, h.c.other (Blk.apart h.c hk ht.1.symm) u, h.h.other (Blk.apart h.h hk ht.2.1.symm) u, h.z.other (Blk.apart h.z hk ht.2.2.symm) u, h.f.put_new h0 u, h.q⟩
theorem DynI.head {w0 : World} {zb B : Nat} {Z : Array Value} {s : ByteArray} {most q : Nat} {v : Value} {x y z : Nat} {w : World} (h : DynI w0 zb B Z s most q v x y z w) (h0 : w0.heap.size ≤ B) (i : Nat) (u : Value) (x' y' z' : Nat) (he : #[Value.int .i64 (x : Nat), .int .i64 (y : Nat), .int .i64 (z : Nat)].setIfInBounds i u = #[.int .i64 (x' : Nat), .int .i64 (y' : Nat), .int .i64 (z' : Nat)]) : DynI w0 zb B Z s most q v x' y' z' (w.setCell ⟨B + 1 + 1, i, none⟩ u) :=
  ⟨h.a.other (by simp; omega) u, h.c.other (by simp) u, he ▸ h.h.put i u, h.z.other (Blk.apart h.z h.h (by decide)) u, h.f.put_new (by simp; omega) u, h.q⟩
theorem idx554_0 (w : World) : (Instr.index 181 (.agg #[.int .i64 5, .int .i64 5, .int .i64 4]) (.int .i64 0)).run Tryz.prog w = .ok (.int .i64 5) w := by kernel_rfl
theorem idx554_1 (w : World) : (Instr.index 181 (.agg #[.int .i64 5, .int .i64 5, .int .i64 4]) (.int .i64 1)).run Tryz.prog w = .ok (.int .i64 5) w := by kernel_rfl
theorem idx554_2 (w : World) : (Instr.index 181 (.agg #[.int .i64 5, .int .i64 5, .int .i64 4]) (.int .i64 2)).run Tryz.prog w = .ok (.int .i64 4) w := by kernel_rfl

set_option maxRecDepth 100000 in
set_option maxHeartbeats 8000000 in
theorem dynamicCodes_any (s : ByteArray) (p most zb : Nat) (v : Value) (w : World) (hz : Blk w zb 141 (zc s p most v)) (hs : s.size ≤ 1000000000000000) (hp : p ≤ 8 * s.size) :
    Calls Tryz.prog 158 #[.pointer (some ⟨zb, 0, none⟩)] w fun e w' => DynOk s most zb v (dynT (bitsAt s p)) e w' ∧ Fr zb [141] w w' := by
  obtain ⟨b0, hb0⟩ : ∃ b0, bitsAt s p = b0 := ⟨_, rfl⟩
  have H0 : Hid (dynT b0 = dynT (bitsAt s p)) := by show _ = _; rw [hb0]
  rw [hb0]
  clear hb0
  obtain ⟨Z, hZ⟩ : ∃ Z, Z = decZ := ⟨_, rfl⟩
  have HZ := Lib.hid hZ
  have HZB : Hid (Tryz.prog.built 164 [] = some Z) := by rw [hZ]; exact decZ_built
  have HZI : Hid ((Tryz.prog.info? 164).map (·.size) = some Z.size) := by rw [hZ]; exact decZ_inf
  have HZ1 : Hid (Z.all (·.oneCell') = true) := by rw [hZ]; exact decZ_one
  have hI : DynI w zb w.heap.size Z s most p v 0 0 0 (((w.alloc (.cells Z 164)).alloc (.cells Z 164)).alloc (.cells #[.int .i64 (0 : Nat), .int .i64 (0 : Nat), .int .i64 (0 : Nat)] 181)) :=
    ⟨((Blk.new w _ _).alloc _).alloc _, (Blk.new_at (by simp) _ _).alloc _, Blk.new_at (by simp) _ _, ((hz.alloc _).alloc _).alloc _, (((Fr.refl _ _ _).alloc _).alloc _).alloc _, hp⟩
  have HI := Lib.hid hI
  clear hI
  go_enter Tryz.func158, Tryz.ntmps158
  go_upto_region 2 with fail
  have hI := HI.out
  clear HI
  change Code.wp _ _ _ _ (((w.alloc (.cells decZ 164)).alloc (.cells decZ 164)).alloc (.cells #[.int .i64 (0 : Nat), .int .i64 (0 : Nat), .int .i64 (0 : Nat)] 181))
  rw [← HZ.out]
  generalize ((w.alloc (.cells Z 164)).alloc (.cells Z 164)).alloc (.cells #[.int .i64 (0 : Nat), .int .i64 (0 : Nat), .int .i64 (0 : Nat)] 181) = w1 at hI ⊢
  obtain ⟨B, hB⟩ : ∃ B, w.heap.size = B := ⟨_, rfl⟩
  rw [hB] at hI ⊢
  have HB := Lib.hid hB
  clear hB hz hZ
  go_wp2_with fail
  go_loopw [16] (fun v16 wr => ∃ q x y z : Nat, DynI w zb B Z s most q v x y z wr ∧ ((v16 = .int .i64 0 ∧ Hid (dynT b0 = dynT (bitsAt s q))) ∨ (v16 = .int .i64 1 ∧ x < 32 ∧ Hid (dynT b0 = dyn1 x (bitsAt s q))) ∨ (v16 = .int .i64 2 ∧ x < 32 ∧ y < 32 ∧ Hid (dynT b0 = dyn2 x y (bitsAt s q))) ∨ (v16 = .int .i64 3 ∧ x < 32 ∧ y < 32 ∧ z < 16 ∧ Hid (dynT b0 = dyn3 x y z (bitsAt s q))))) (fun v16 _ => 3 - (intOf v16).toNat)
  case atStart => exact ⟨p, 0, 0, 0, hI, .inl ⟨rfl, H0⟩⟩
  case round =>
    clear hI H0 hp
    obtain ⟨q, x, y, z, hI, ⟨rfl, hE⟩ | ⟨rfl, hx, hE⟩ | ⟨rfl, hx, hy, hE⟩ | ⟨rfl, hx, hy, hz, hE⟩⟩ := hrel
    · have hEE := hE.out
      rw [dyn0 (bitsAt s q)] at hEE
      clear hE
      have hix := idx554_0
      go_wp2_with fail
      clear hix
      refine (number_any s q 5 most zb v _ hI.z hs hI.q (by decide)).mono ?_
      rintro e w2 ⟨hok, hf2⟩
      have hst := hok.st hI.q
      clear hok
      cases hn : numT (bitsAt s q) 5 with
      | error k =>
        rw [hn] at hst hEE
        obtain ⟨rfl, p1, hp1, hz1⟩ := hst
        have hI2 := hI.read hf2 hz1 hp1
        have HE : Hid (dynT b0 = .error k) := hEE
        have hk := numT_err hn
        have hk1 : ((k : Int) != 0) = true := by simp; omega
        clear hn hEE hz1 hf2
        have k0 := hI2.h.cell 0
        have f0 := hI2.h.frozen 0
        simp at k0
        have hI3 := hI2.head (by rw [HB.out]; exact Nat.le_refl _) 0 (.int .i64 ((0 : Nat) : Int)) 0 y z rfl
        have HI3 := Lib.hid hI3
        clear hI hI2 hI3
        go_upto_region 6 with fail
        have hI := HI3.out
        clear HI3
        change Code.wp _ _ _ _ (w2.setCell ⟨B + 1 + 1, 0, none⟩ (.int .i64 ((0 : Nat) : Int)))
        generalize w2.setCell ⟨B + 1 + 1, 0, none⟩ (.int .i64 ((0 : Nat) : Int)) = w3 at hI ⊢
        have hA := hI.a
        have hC := hI.c
        have hfr := hI.f
        go_wp2_with (first | refine wpList_buildTo rfl 164 #[] rfl _ rfl Z (by simp; exact HZB.out) ?_ | refine wpList_store_same rfl 164 (.tmp 2) _ rfl rfl B Z (by rfl) (by rfl) 164 hA HZI.out HZ1.out ?_ | refine wpList_store_same rfl 164 (.tmp 3) _ rfl rfl (B + 1) Z (by rfl) (by rfl) 164 hC HZI.out HZ1.out ?_)
        refine bodyPost_ret (v := .tuple #[.agg Z, .agg Z, .int .i64 k]) (results_two_rows_tmp rfl _ _ B (B + 1) 164 Z Z (0, 0) _ _ rfl rfl (by rfl) hA hC Tryz.underlying164 rfl HZI.out HZI.out) rfl ⟨?_, hfr⟩
        rw [HE.out]
        show _ = _
        rw [HZ.out]
      | ok xb =>
        obtain ⟨X, b1⟩ := xb
        rw [hn] at hst hEE
        obtain ⟨rfl, p1, hp1, rfl, hz1⟩ := hst
        have hI2 := hI.read hf2 hz1 hp1
        have hX := (numT_ok hn).2.2.2
        have HE : Hid (dynT b0 = dyn1 X (bitsAt s p1)) := hEE
        clear hn hEE hz1 hf2
        have k0 := hI2.h.cell 0
        have f0 := hI2.h.frozen 0
        simp at k0 hX
        have hI3 := hI2.head (by rw [HB.out]; exact Nat.le_refl _) 0 (.int .i64 (X : Nat)) X y z rfl
        have HI3 := Lib.hid hI3
        clear hI hI2 hI3
        go_wp2_with fail
        exact ⟨⟨p1, X, y, z, HI3.out, .inr (.inl ⟨rfl, hX, HE⟩)⟩, by simp [intOf]⟩
    · have hEE := hE.out
      unfold dyn1 at hEE
      clear hE
      have hix := idx554_1
      go_wp2_with fail
      clear hix
      refine (number_any s q 5 most zb v _ hI.z hs hI.q (by decide)).mono ?_
      rintro e w2 ⟨hok, hf2⟩
      have hst := hok.st hI.q
      clear hok
      cases hn : numT (bitsAt s q) 5 with
      | error k =>
        rw [hn] at hst hEE
        obtain ⟨rfl, p1, hp1, hz1⟩ := hst
        have hI2 := hI.read hf2 hz1 hp1
        have HE : Hid (dynT b0 = .error k) := hEE
        have hk := numT_err hn
        have hk1 : ((k : Int) != 0) = true := by simp; omega
        clear hn hEE hz1 hf2
        have k0 := hI2.h.cell 1
        have f0 := hI2.h.frozen 1
        simp at k0
        have hI3 := hI2.head (by rw [HB.out]; exact Nat.le_refl _) 1 (.int .i64 ((0 : Nat) : Int)) x 0 z rfl
        have HI3 := Lib.hid hI3
        clear hI hI2 hI3
        go_upto_region 6 with fail
        have hI := HI3.out
        clear HI3
        change Code.wp _ _ _ _ (w2.setCell ⟨B + 1 + 1, 1, none⟩ (.int .i64 ((0 : Nat) : Int)))
        generalize w2.setCell ⟨B + 1 + 1, 1, none⟩ (.int .i64 ((0 : Nat) : Int)) = w3 at hI ⊢
        have hA := hI.a
        have hC := hI.c
        have hfr := hI.f
        go_wp2_with (first | refine wpList_buildTo rfl 164 #[] rfl _ rfl Z (by simp; exact HZB.out) ?_ | refine wpList_store_same rfl 164 (.tmp 2) _ rfl rfl B Z (by rfl) (by rfl) 164 hA HZI.out HZ1.out ?_ | refine wpList_store_same rfl 164 (.tmp 3) _ rfl rfl (B + 1) Z (by rfl) (by rfl) 164 hC HZI.out HZ1.out ?_)
        refine bodyPost_ret (v := .tuple #[.agg Z, .agg Z, .int .i64 k]) (results_two_rows_tmp rfl _ _ B (B + 1) 164 Z Z (0, 0) _ _ rfl rfl (by rfl) hA hC Tryz.underlying164 rfl HZI.out HZI.out) rfl ⟨?_, hfr⟩
        rw [HE.out]
        show _ = _
        rw [HZ.out]
      | ok xb =>
        obtain ⟨X, b1⟩ := xb
        rw [hn] at hst hEE
        obtain ⟨rfl, p1, hp1, rfl, hz1⟩ := hst
        have hI2 := hI.read hf2 hz1 hp1
        have hX := (numT_ok hn).2.2.2
        have HE : Hid (dynT b0 = dyn2 x X (bitsAt s p1)) := hEE
        clear hn hEE hz1 hf2
        have k0 := hI2.h.cell 1
        have f0 := hI2.h.frozen 1
        simp at k0 hX
        have hI3 := hI2.head (by rw [HB.out]; exact Nat.le_refl _) 1 (.int .i64 (X : Nat)) x X z rfl
        have HI3 := Lib.hid hI3
        clear hI hI2 hI3
        go_wp2_with fail
        exact ⟨⟨p1, x, X, z, HI3.out, .inr (.inr (.inl ⟨rfl, hx, hX, HE⟩))⟩, by simp [intOf]⟩
    · have hEE := hE.out
      unfold dyn2 at hEE
      clear hE
      have hix := idx554_2
      go_wp2_with fail
      clear hix
      refine (number_any s q 4 most zb v _ hI.z hs hI.q (by decide)).mono ?_
      rintro e w2 ⟨hok, hf2⟩
      have hst := hok.st hI.q
      clear hok
      cases hn : numT (bitsAt s q) 4 with
      | error k =>
        rw [hn] at hst hEE
        obtain ⟨rfl, p1, hp1, hz1⟩ := hst
        have hI2 := hI.read hf2 hz1 hp1
        have HE : Hid (dynT b0 = .error k) := hEE
        have hk := numT_err hn
        have hk1 : ((k : Int) != 0) = true := by simp; omega
        clear hn hEE hz1 hf2
        have k0 := hI2.h.cell 2
        have f0 := hI2.h.frozen 2
        simp at k0
        have hI3 := hI2.head (by rw [HB.out]; exact Nat.le_refl _) 2 (.int .i64 ((0 : Nat) : Int)) x y 0 rfl
        have HI3 := Lib.hid hI3
        clear hI hI2 hI3
        go_upto_region 6 with fail
        have hI := HI3.out
        clear HI3
        change Code.wp _ _ _ _ (w2.setCell ⟨B + 1 + 1, 2, none⟩ (.int .i64 ((0 : Nat) : Int)))
        generalize w2.setCell ⟨B + 1 + 1, 2, none⟩ (.int .i64 ((0 : Nat) : Int)) = w3 at hI ⊢
        have hA := hI.a
        have hC := hI.c
        have hfr := hI.f
        go_wp2_with (first | refine wpList_buildTo rfl 164 #[] rfl _ rfl Z (by simp; exact HZB.out) ?_ | refine wpList_store_same rfl 164 (.tmp 2) _ rfl rfl B Z (by rfl) (by rfl) 164 hA HZI.out HZ1.out ?_ | refine wpList_store_same rfl 164 (.tmp 3) _ rfl rfl (B + 1) Z (by rfl) (by rfl) 164 hC HZI.out HZ1.out ?_)
        refine bodyPost_ret (v := .tuple #[.agg Z, .agg Z, .int .i64 k]) (results_two_rows_tmp rfl _ _ B (B + 1) 164 Z Z (0, 0) _ _ rfl rfl (by rfl) hA hC Tryz.underlying164 rfl HZI.out HZI.out) rfl ⟨?_, hfr⟩
        rw [HE.out]
        show _ = _
        rw [HZ.out]
      | ok xb =>
        obtain ⟨X, b1⟩ := xb
        rw [hn] at hst hEE
        obtain ⟨rfl, p1, hp1, rfl, hz1⟩ := hst
        have hI2 := hI.read hf2 hz1 hp1
        have hX := (numT_ok hn).2.2.2
        have HE : Hid (dynT b0 = dyn3 x y X (bitsAt s p1)) := hEE
        clear hn hEE hz1 hf2
        have k0 := hI2.h.cell 2
        have f0 := hI2.h.frozen 2
        simp at k0 hX
        have hI3 := hI2.head (by rw [HB.out]; exact Nat.le_refl _) 2 (.int .i64 (X : Nat)) x y X rfl
        have HI3 := Lib.hid hI3
        clear hI hI2 hI3
        go_wp2_with fail
        exact ⟨⟨p1, x, y, X, HI3.out, .inr (.inr (.inr ⟨rfl, hx, hy, hX, HE⟩))⟩, by simp [intOf]⟩
    · have hEE := hE.out
      unfold dyn3 at hEE
      clear hE
      have k0 := hI.h.cell 0
      have k1 := hI.h.cell 1
      have k2 := hI.h.cell 2
      simp at k0 k1 k2
      have hA := hI.a
      have hC := hI.c
      have hfr := hI.f
      by_cases hbad : 29 < x ∨ 29 < y
      · rw [if_pos hbad] at hEE
        have HE := Lib.hid hEE
        clear hEE
        by_cases hx29 : 29 < x
        · have d1 : decide ((29 : Int) < (x : Int)) = true := by simp; omega
          clear hbad
          go_wp2_with (first | refine wpList_buildTo rfl 164 #[] rfl _ rfl Z (by simp; exact HZB.out) ?_ | refine wpList_store_same rfl 164 (.tmp 2) _ rfl rfl B Z (by rfl) (by rfl) 164 hA HZI.out HZ1.out ?_ | refine wpList_store_same rfl 164 (.tmp 3) _ rfl rfl (B + 1) Z (by rfl) (by rfl) 164 hC HZI.out HZ1.out ?_)
          refine bodyPost_ret (v := .tuple #[.agg Z, .agg Z, .int .i64 4]) (results_two_rows_tmp rfl _ _ B (B + 1) 164 Z Z (0, 0) _ _ rfl rfl (by rfl) hA hC Tryz.underlying164 rfl HZI.out HZI.out) rfl ⟨?_, hfr⟩
          rw [HE.out]
          show _ = _
          rw [HZ.out]
          rfl
        · have d1 : decide ((29 : Int) < (x : Int)) = false := by simp; omega
          have d2 : decide ((29 : Int) < (y : Int)) = true := by simp; omega
          clear hbad
          go_wp2_with (first | refine wpList_buildTo rfl 164 #[] rfl _ rfl Z (by simp; exact HZB.out) ?_ | refine wpList_store_same rfl 164 (.tmp 2) _ rfl rfl B Z (by rfl) (by rfl) 164 hA HZI.out HZ1.out ?_ | refine wpList_store_same rfl 164 (.tmp 3) _ rfl rfl (B + 1) Z (by rfl) (by rfl) 164 hC HZI.out HZ1.out ?_)
          refine bodyPost_ret (v := .tuple #[.agg Z, .agg Z, .int .i64 4]) (results_two_rows_tmp rfl _ _ B (B + 1) 164 Z Z (0, 0) _ _ rfl rfl (by rfl) hA hC Tryz.underlying164 rfl HZI.out HZI.out) rfl ⟨?_, hfr⟩
          rw [HE.out]
          show _ = _
          rw [HZ.out]
          rfl
      rw [if_neg hbad] at hEE
      have HEE := Lib.hid hEE
      have d1 : decide ((29 : Int) < (x : Int)) = false := by simp; omega
      have d2 : decide ((29 : Int) < (y : Int)) = false := by simp; omega
      have hx29 : x ≤ 29 := by omega
      have hy29 : y ≤ 29 := by omega
      clear hEE hbad hA hC hfr
      go_upto_region 12 with fail
      have hI2 := hI.of_below ((Below.refl _ _).alloc (Nat.le_refl _) (.cells (rowA (List.replicate 19 0)) 182))
      have hL := Blk.new wr 182 (rowA (List.replicate 19 0))
      change Code.wp _ _ _ _ (wr.alloc (.cells (rowA (List.replicate 19 0)) 182))
      have hlB0 : B < wr.heap.size := hI.a.lt
      generalize wr.alloc (.cells (rowA (List.replicate 19 0)) 182) = w2 at hI2 hL ⊢
      obtain ⟨lB, hlB⟩ : ∃ k, wr.heap.size = k := ⟨_, rfl⟩
      rw [hlB] at hL hlB0 ⊢
      clear hlB hI k0 k1 k2 d1 d2
      obtain ⟨O, hO⟩ : ∃ O, rowA ordC = O := ⟨_, rfl⟩
      have hOB := ordV_built
      have hO0 := Blk.new w2 182 (rowA (List.replicate 19 0))
      have hOI := arr19_inf ordC rfl
      have hO1 := rowA_one ordC
      have hOS : (rowA (List.replicate 19 0)).size = (rowA ordC).size := rfl
      rw [hO] at hOB hOI hO1 hOS
      have HOB := Lib.hid hOB
      have HO0 := Lib.hid hO0
      have HOI := Lib.hid hOI
      have HO1 := Lib.hid hO1
      have HOS := Lib.hid hOS
      have HO := Lib.hid hO
      clear hOB hO0 hOI hO1 hOS hO
      go_upto_region 13 with (first | refine wpList_buildTo rfl 182 _ rfl (some 44) rfl O (by simp [Act.eval]; exact HOB.out) ?_ | refine wpList_store_rowTo rfl 182 (.tmp 9) (.tmp 44) rfl rfl w2.heap.size O (by rfl) (by rfl) 182 _ (by exact HO0.out) (by exact HOI.out) (by exact HOS.out) (by exact HO1.out) ?_)
      have hI3 := hI2.of_below (below_setRow ((Below.refl _ _).alloc (Nat.le_refl _) (.cells (rowA (List.replicate 19 0)) 182)) (Nat.le_refl _) O)
      have hL3 := (hL.alloc (.cells (rowA (List.replicate 19 0)) 182)).setRow_ne O (Nat.ne_of_lt hL.lt)
      have hO3 := HO0.out.setRow O
      have hlo : lB < w2.heap.size := hL.lt
      change Code.wp _ _ _ _ ((w2.alloc (.cells (rowA (List.replicate 19 0)) 182)).setRow w2.heap.size O)
      clear HO0
      generalize (w2.alloc (.cells (rowA (List.replicate 19 0)) 182)).setRow w2.heap.size O = w3 at hI3 hL3 hO3 ⊢
      obtain ⟨oB, hoB⟩ : ∃ k, w2.heap.size = k := ⟨_, rfl⟩
      rw [hoB] at hO3 hlo ⊢
      clear hoB hI2 hL HOB HOI HO1 HOS
      have k2 := hI3.h.cell 2
      simp at k2
      have z4a : (0 : Int) ≤ (z : Int) + 4 := by omega
      have z4b : (z : Int) + 4 ≤ 19 := by omega
      go_wp2_with fail
      clear k2 z4a z4b
      have HO18 : Hid (∀ n ∈ ordC, n ≤ 18) := by show ∀ _ ∈ _, _; decide
      have H0 : Hid (dynT b0 = match clGo ((ordC.take (z + 4)).drop 0) (List.replicate 19 0) (bitsAt s q) with | .error e => .error e | .ok (cl, b4) => dyn4 x y cl b4) := HEE
      clear HEE
      go_loopw [50] (fun vi ws => ∃ (i qq : Nat) (cc : List Nat), vi = .int .i64 i ∧ i ≤ z + 4 ∧ DynI w zb B Z s most qq v x y z ws ∧ Blk ws lB 182 (rowA cc) ∧ Blk ws oB 182 O ∧ cc.length = 19 ∧ (∀ n ∈ cc, n ≤ 15) ∧ Hid (dynT b0 = match clGo ((ordC.take (z + 4)).drop i) cc (bitsAt s qq) with | .error e => .error e | .ok (cl, b4) => dyn4 x y cl b4)) (fun vi _ => z + 4 - (intOf vi).toNat)
      case atStart => exact ⟨0, q, _, rfl, Nat.zero_le _, hI3, hL3, hO3, rfl, by decide, H0⟩
      case round =>
        clear hI3 hL3 hO3 H0
        obtain ⟨i, qq, cc, rfl, hi, hI, hL, hO, hcc, hc15, hE⟩ := hrel
        by_cases hil : i < z + 4
        · have hd : decide ((i : Int) < (z : Int) + 4) = true := by simp; omega
          have hEE := hE.out
          clear hE
          have hi19 : i < ordC.length := by show i < 19; omega
          obtain ⟨o, ho⟩ : ∃ o, ordC[i] = o := ⟨_, rfl⟩
          have hdrop : (ordC.take (z + 4)).drop i = o :: (ordC.take (z + 4)).drop (i + 1) := by
            rw [List.drop_eq_getElem_cons (by rw [List.length_take]; show i < min (z + 4) 19; omega), List.getElem_take, ho]
          have ho18 : o ≤ 18 := by rw [← ho]; exact HO18.out _ (List.getElem_mem hi19)
          have kO : wr.cell? ⟨oB, i, none⟩ = some (.int .i64 (o : Nat)) := by rw [hO.cell i, ← HO.out, rowA_get ordC i hi19, ho]
          rw [hdrop] at hEE
          unfold clGo at hEE
          have HEE := Lib.hid hEE
          clear hEE hdrop ho hi19
          go_wp2_with fail
          refine (number_any s qq 3 most zb v _ hI.z hs hI.q (by decide)).mono ?_
          rintro e w4 ⟨hok, hf4⟩
          have hst := hok.st hI.q
          have hL4 := hf4.blk hL (by decide)
          have hO4 := hf4.blk hO (by decide)
          have hEE := HEE.out
          clear hok HEE hL hO kO
          cases hn : numT (bitsAt s qq) 3 with
          | error k =>
            rw [hn] at hst hEE
            obtain ⟨rfl, p1, hp1, hz1⟩ := hst
            have hI4 := hI.read hf4 hz1 hp1
            have HE : Hid (dynT b0 = .error k) := hEE
            have hk := numT_err hn
            have hk1 : ((k : Int) != 0) = true := by simp; omega
            have kL : w4.cell? ⟨lB, o, none⟩ = some (.int .i64 (cc[o]'(by omega) : Nat)) := by rw [hL4.cell o, rowA_get cc o (by omega)]
            have fL := hL4.frozen o
            have hI5 := hI4.put hL4 (by decide) (by rw [HB.out]; exact Nat.le_of_lt hlB0) o (.int .i64 ((0 : Nat) : Int))
            have HI5 := Lib.hid hI5
            generalize cc[o]'(by omega) = old at kL
            clear hn hEE hz1 hf4 hI hI4 hI5 hL4 hO4
            go_upto_region 17 with fail
            have hI := HI5.out
            clear HI5
            change Code.wp _ _ _ _ (w4.setCell ⟨lB, o, none⟩ (.int .i64 ((0 : Nat) : Int)))
            generalize w4.setCell ⟨lB, o, none⟩ (.int .i64 ((0 : Nat) : Int)) = w5 at hI ⊢
            have hA := hI.a
            have hC := hI.c
            have hfr := hI.f
            go_wp2_with (first | refine wpList_buildTo rfl 164 #[] rfl _ rfl Z (by simp; exact HZB.out) ?_ | refine wpList_store_same rfl 164 (.tmp 2) _ rfl rfl B Z (by rfl) (by rfl) 164 hA HZI.out HZ1.out ?_ | refine wpList_store_same rfl 164 (.tmp 3) _ rfl rfl (B + 1) Z (by rfl) (by rfl) 164 hC HZI.out HZ1.out ?_)
            refine bodyPost_ret (v := .tuple #[.agg Z, .agg Z, .int .i64 k]) (results_two_rows_tmp rfl _ _ B (B + 1) 164 Z Z (0, 0) _ _ rfl rfl (by rfl) hA hC Tryz.underlying164 rfl HZI.out HZI.out) rfl ⟨?_, hfr⟩
            rw [HE.out]
            show _ = _
            rw [HZ.out]
          | ok xb =>
            obtain ⟨X, b1⟩ := xb
            rw [hn] at hst hEE
            obtain ⟨rfl, p1, hp1, rfl, hz1⟩ := hst
            have hI4 := hI.read hf4 hz1 hp1
            have hX := (numT_ok hn).2.2.2
            have HE : Hid (dynT b0 = match clGo ((ordC.take (z + 4)).drop (i + 1)) (cc.set o X) (bitsAt s p1) with | .error e => .error e | .ok (cl, b4) => dyn4 x y cl b4) := hEE
            have kL : w4.cell? ⟨lB, o, none⟩ = some (.int .i64 (cc[o]'(by omega) : Nat)) := by rw [hL4.cell o, rowA_get cc o (by omega)]
            have fL := hL4.frozen o
            have hI5 := hI4.put hL4 (by decide) (by rw [HB.out]; exact Nat.le_of_lt hlB0) o (.int .i64 (X : Nat))
            have hL5 := hL4.put o (.int .i64 (X : Nat))
            rw [rowA_set] at hL5
            have hO5 := hO4.other (p := ⟨lB, o, none⟩) (Nat.ne_of_gt hlo) (.int .i64 (X : Nat))
            have HC15 : Hid (∀ n ∈ cc.set o X, n ≤ 15) := by
              intro n hn
              rcases List.mem_or_eq_of_mem_set hn with h | h
              · exact hc15 n h
              · rw [h]; simp at hX; omega
            have HI5 := Lib.hid hI5
            have HL5 := Lib.hid hL5
            have HO5 := Lib.hid hO5
            generalize cc[o]'(by omega) = old at kL
            clear hn hEE hz1 hf4 hI hI4 hI5 hL4 hO4 hL5 hO5 hX
            go_wp2_with fail
            exact ⟨⟨i + 1, p1, cc.set o X, by go_num, by omega, HI5.out, HL5.out, HO5.out, by simp [hcc], HC15.out, HE⟩, by simp [intOf]; omega⟩
        · have hd : decide ((i : Int) < (z : Int) + 4) = false := by simp; omega
          obtain rfl : i = z + 4 := by omega
          have hEE := hE.out
          rw [List.drop_eq_nil_of_le (by rw [List.length_take]; omega)] at hEE
          have hEE : dynT b0 = dyn4 x y cc (bitsAt s qq) := hEE
          unfold dyn4 at hEE
          have hrd : IRead wr (.slice (some ⟨lB, 0, none⟩) 19 19) cc := by
            have := read_row hL 19 19 (by omega) (Nat.le_refl _) (by unfold maxLen; decide)
            rwa [List.take_of_length_le (by omega)] at this
          have hsum := sum_any _ cc wr hrd hc15 (by omega)
          have hss := sumC_le cc
          have HSUM := Lib.hid hsum
          clear hE hO hsum
          have HEE := Lib.hid hEE
          clear hEE
          go_wp2_with fail
          refine HSUM.out.mono ?_
          rintro e w4 ⟨rfl, rfl⟩
          clear HSUM
          have hEE := HEE.out
          clear HEE
          by_cases hfull : sumC cc ≠ 32768
          · rw [if_pos hfull] at hEE
            have HE := Lib.hid hEE
            obtain ⟨S, hS⟩ : ∃ S, sumC cc = S := ⟨_, rfl⟩
            rw [hS] at hfull hss ⊢
            have d3 : ((S : Int) != 32768) = true := by simp; omega
            have hA := hI.a
            have hC := hI.c
            have hfr := hI.f
            clear hEE hfull hS
            go_wp2_with (first | refine wpList_buildTo rfl 164 #[] rfl _ rfl Z (by simp; exact HZB.out) ?_ | refine wpList_store_same rfl 164 (.tmp 2) _ rfl rfl B Z (by rfl) (by rfl) 164 hA HZI.out HZ1.out ?_ | refine wpList_store_same rfl 164 (.tmp 3) _ rfl rfl (B + 1) Z (by rfl) (by rfl) 164 hC HZI.out HZ1.out ?_)
            refine bodyPost_ret (v := .tuple #[.agg Z, .agg Z, .int .i64 4]) (results_two_rows_tmp rfl _ _ B (B + 1) 164 Z Z (0, 0) _ _ rfl rfl (by rfl) hA hC Tryz.underlying164 rfl HZI.out HZI.out) rfl ⟨?_, hfr⟩
            rw [HE.out]
            show _ = _
            rw [HZ.out]
            rfl
          rw [if_neg hfull] at hEE
          obtain ⟨S, hS⟩ : ∃ S, sumC cc = S := ⟨_, rfl⟩
          rw [hS] at hfull ⊢
          have d3 : ((S : Int) != 32768) = false := by simp; omega
          have HEE := Lib.hid hEE
          clear hEE hS hfull hss
          go_wp2_with fail
          refine (newDecoder_any _ cc _ hrd hc15 (by omega)).mono ?_
          rintro e w5 ⟨⟨sv, rfl, hsv⟩, hb5⟩
          clear d3
          have hI5 := hI.of_below hb5
          have hDi := decC_inf cc sv
          have hD1 := decC_one cc sv (irow_one hsv)
          obtain ⟨D, hD⟩ : ∃ D, decC cc sv = D := ⟨_, rfl⟩
          have hZD : decZ.size = (decC cc sv).size := rfl
          have hD0 := Blk.new w5 164 decZ
          have hdec : Dec ((w5.alloc (.cells decZ 164)).setRow w5.heap.size (decC cc sv)) w5.heap.size cc := ⟨sv, hD0.setRow _, (hsv.alloc _).setRow hD0 (by decide) _⟩
          rw [hD] at hDi hD1 hZD hdec ⊢
          have hI6 := hI5.of_below (below_setRow ((Below.refl _ _).alloc (Nat.le_refl _) (.cells decZ 164)) (Nat.le_refl _) D)
          have HDI := Lib.hid hDi
          have HD1 := Lib.hid hD1
          have HZD := Lib.hid hZD
          have HD0 := Lib.hid hD0
          have HDEC := Lib.hid hdec
          have HI6 := Lib.hid hI6
          clear hDi hD1 hZD hD0 hdec hI6 hI5 hb5 hI hD hsv hL hrd
          go_upto_region 23 with (refine wpList_store_rowTo rfl 164 (.tmp 12) (.tmp 73) rfl rfl w5.heap.size D (by rfl) (by rfl) 164 _ (by exact HD0.out) (by exact HDI.out) (by exact HZD.out) (by exact HD1.out) ?_)
          have hI := HI6.out
          have hdec := HDEC.out
          clear HI6 HDEC HD0 HDI HD1 HZD
          change Code.wp _ _ _ _ ((w5.alloc (.cells decZ 164)).setRow w5.heap.size D)
          generalize (w5.alloc (.cells decZ 164)).setRow w5.heap.size D = w6 at hI hdec ⊢
          obtain ⟨dB, hdB⟩ : ∃ k, w5.heap.size = k := ⟨_, rfl⟩
          rw [hdB] at hdec ⊢
          clear hdB
          obtain ⟨n, hn⟩ : ∃ n, n = x + 257 + y + 1 := ⟨_, rfl⟩
          obtain ⟨sp, hsp⟩ : ∃ n, n = x + 257 := ⟨_, rfl⟩
          rw [← hn, ← hsp] at HEE
          have hcall := lengths_any s qq most zb dB n v cc w6 hI.z hdec (by omega) hs hI.q (by omega)
          have HCALL := Lib.hid hcall
          have k0 := hI.h.cell 0
          have k1 := hI.h.cell 1
          simp at k0 k1
          have e1 : (x : Int) + 257 = (sp : Int) := by omega
          have e2 : (sp : Int) + (y : Int) + 1 = (n : Int) := by omega
          have HE1 := Lib.hid e1
          have HE2 := Lib.hid e2
          have HN := Lib.hid hn
          have HSP := Lib.hid hsp
          have hsp29 : sp ≤ 286 := by omega
          have hspn : sp < n := by omega
          have hsp1 : 257 ≤ sp := by omega
          have hn400 : n ≤ 400 := by omega
          clear hcall e1 e2 hn hsp
          go_upto_region 24 with fail
          rw [HE1.out]
          go_wp2_with fail
          rw [HE2.out]
          refine HCALL.out.mono ?_
          rintro e w7 ⟨hok, hf7⟩
          have hEE := HEE.out
          clear HCALL HEE k0 k1 hdec
          cases hlst : lstT cc n (bitsAt s qq) with
          | error k =>
            rw [hlst] at hok hEE
            obtain rfl := hok
            have HE : Hid (dynT b0 = .error k) := hEE
            have hk := lstT_err hlst
            have hk1 : ((k : Int) != 0) = true := by simp; omega
            have hA := hf7.blk hI.a (by decide)
            have hC := hf7.blk hI.c (by decide)
            have hfr := hI.f.trans hf7
            clear hlst hEE hI hf7
            go_wp2_with (first | refine wpList_buildTo rfl 164 #[] rfl _ rfl Z (by simp; exact HZB.out) ?_ | refine wpList_store_same rfl 164 (.tmp 2) _ rfl rfl B Z (by rfl) (by rfl) 164 hA HZI.out HZ1.out ?_ | refine wpList_store_same rfl 164 (.tmp 3) _ rfl rfl (B + 1) Z (by rfl) (by rfl) 164 hC HZI.out HZ1.out ?_)
            refine bodyPost_ret (v := .tuple #[.agg Z, .agg Z, .int .i64 k]) (results_two_rows_tmp rfl _ _ B (B + 1) 164 Z Z (0, 0) _ _ rfl rfl (by rfl) hA hC Tryz.underlying164 rfl HZI.out HZI.out) rfl ⟨?_, hfr⟩
            rw [HE.out]
            show _ = _
            rw [HZ.out]
          | ok ab =>
            obtain ⟨all, b5⟩ := ab
            rw [hlst] at hok hEE
            obtain ⟨⟨u, rfl, hrow⟩, p5, hp5, rfl, hz7⟩ := hok
            have hI7 := hI.read hf7 hz7 hp5
            obtain ⟨hlen, ha15⟩ := lstT_ok (by omega) hlst
            simp only at hEE
            obtain ⟨xg, c, rfl, hc1, hc2, h3⟩ := hrow
            obtain ⟨g, off, cs, rfl, hbg, hcell⟩ := h3 (by intro h; rw [h] at hlen; simp at hlen; omega)
            rw [hlen] at hc1 ⊢
            have hrt : IRead w7 (.slice (some ⟨g, off, none⟩) sp c) (all.take sp) := by
              have hl : (all.take sp).length = sp := by simp; omega
              refine ⟨_, c, by rw [hl], by omega, hc2, fun _ => ⟨g, off, rfl, fun j hj => ?_⟩⟩
              rw [hbg.cell, hcell j (by omega)]
              simp
            have hrd : IRead w7 (.slice (some ⟨g, off + sp, none⟩) (n - sp) (c - sp)) (all.drop sp) := by
              have hl : (all.drop sp).length = n - sp := by simp; omega
              refine ⟨_, c - sp, by rw [hl], by omega, by omega, fun _ => ⟨g, off + sp, rfl, fun j hj => ?_⟩⟩
              rw [hbg.cell, Nat.add_assoc, hcell (sp + j) (by omega)]
              simp
            have ht15 : ∀ m ∈ all.take sp, m ≤ 15 := fun m hm => ha15 m (List.mem_of_mem_take hm)
            have hd15 : ∀ m ∈ all.drop sp, m ≤ 15 := fun m hm => ha15 m (List.mem_of_mem_drop hm)
            have htl : (all.take sp).length ≤ 400 := by simp; omega
            have hdl : (all.drop sp).length ≤ 400 := by simp; omega
            have hg256 : all.getD 256 0 = all[256]'(by omega) := by simp [List.getD, show 256 < all.length by omega]
            have k256 : w7.cell? ⟨g, off + 256, none⟩ = some (.int .i64 (all.getD 256 0 : Nat)) := by rw [hbg.cell, hcell 256 (by omega), hg256]
            have HST := Lib.hid (sum_any _ _ w7 hrt ht15 htl)
            have HDR := Lib.hid (distancesRight_any _ _ w7 hrd hd15 hdl)
            have hss := sumC_le (all.take sp)
            have HEE := Lib.hid hEE
            have HG := Lib.hid hg256
            unfold maxLen at hc2
            have hcne : ¬ c = 0 := by omega
            have hcsp : ¬ c = sp := by omega
            have a1 : (sp : Int) ≤ (c : Int) := by omega
            have a2 : (sp : Int) ≤ (n : Int) := by omega
            have a3 : (256 : Int) < (n : Int) := by omega
            clear hEE hlst hz7 hf7 hI hg256 hcell hbg h3
            go_wp2_with fail
            refine HST.out.mono ?_
            rintro e w8 ⟨rfl, rfl⟩
            have hEE := HEE.out
            clear HST HEE
            obtain ⟨S1, hS1⟩ : ∃ S1, sumC (all.take sp) = S1 := ⟨_, rfl⟩
            rw [hS1] at hss hEE ⊢
            obtain ⟨V, hV⟩ : ∃ V, all.getD 256 0 = V := ⟨_, rfl⟩
            rw [hV] at k256 hEE
            have hss2 : S1 ≤ 400 * 32768 := Nat.le_trans hss (Nat.mul_le_mul_right _ htl)
            clear hS1 hV hss HG
            have hA := hI7.a
            have hC := hI7.c
            have hfr := hI7.f
            by_cases hbad : S1 ≠ 32768 ∨ V = 0
            · rw [if_pos hbad] at hEE
              have HE := Lib.hid hEE
              clear hEE
              by_cases hS2 : S1 = 32768
              · have d1 : ((S1 : Int) != 32768) = false := by simp; omega
                have d2 : ((V : Int) == 0) = true := by simp; omega
                clear hbad hS2
                go_wp2_with (first | refine wpList_buildTo rfl 164 #[] rfl _ rfl Z (by simp; exact HZB.out) ?_ | refine wpList_store_same rfl 164 (.tmp 2) _ rfl rfl B Z (by rfl) (by rfl) 164 hA HZI.out HZ1.out ?_ | refine wpList_store_same rfl 164 (.tmp 3) _ rfl rfl (B + 1) Z (by rfl) (by rfl) 164 hC HZI.out HZ1.out ?_)
                refine bodyPost_ret (v := .tuple #[.agg Z, .agg Z, .int .i64 4]) (results_two_rows_tmp rfl _ _ B (B + 1) 164 Z Z (0, 0) _ _ rfl rfl (by rfl) hA hC Tryz.underlying164 rfl HZI.out HZI.out) rfl ⟨?_, hfr⟩
                rw [HE.out]
                show _ = _
                rw [HZ.out]
                rfl
              · have d1 : ((S1 : Int) != 32768) = true := by simp; omega
                clear hbad hS2
                go_wp2_with (first | refine wpList_buildTo rfl 164 #[] rfl _ rfl Z (by simp; exact HZB.out) ?_ | refine wpList_store_same rfl 164 (.tmp 2) _ rfl rfl B Z (by rfl) (by rfl) 164 hA HZI.out HZ1.out ?_ | refine wpList_store_same rfl 164 (.tmp 3) _ rfl rfl (B + 1) Z (by rfl) (by rfl) 164 hC HZI.out HZ1.out ?_)
                refine bodyPost_ret (v := .tuple #[.agg Z, .agg Z, .int .i64 4]) (results_two_rows_tmp rfl _ _ B (B + 1) 164 Z Z (0, 0) _ _ rfl rfl (by rfl) hA hC Tryz.underlying164 rfl HZI.out HZI.out) rfl ⟨?_, hfr⟩
                rw [HE.out]
                show _ = _
                rw [HZ.out]
                rfl
            rw [if_neg hbad] at hEE
            have d1 : ((S1 : Int) != 32768) = false := by simp; omega
            have d2 : ((V : Int) == 0) = false := by simp; omega
            have HEE := Lib.hid hEE
            clear hEE hbad
            go_wp2_with fail
            clear d1 d2 k256
            refine HDR.out.mono ?_
            rintro e w8 ⟨rfl, rfl⟩
            clear HDR
            have hEE := HEE.out
            clear HEE
            by_cases hdr : disR (all.drop sp)
            · rw [if_pos hdr] at hEE
              rw [decide_eq_true hdr]
              have HE := Lib.hid hEE
              clear hEE hdr
              go_upto_region 31 with fail
              have HI7 : Hid (DynI w zb B Z s most p5 v x y z w7.drew) := ⟨hI7.a, hI7.c, hI7.h, hI7.z, ⟨hI7.f.os, hI7.f.tape, hI7.f.output, hI7.f.size, hI7.f.block⟩, hI7.q⟩
              clear hI7 hA hC hfr
              refine wp_region_held_drew (S := fun _ => True) (by kernel_rfl) trivial (fun hHeld => ?_)
              refine wpAnyH_take (i := 0) (oi := ⟨some 112, Op.move (Operand.tmp 14), 51, _, _, none⟩) (v := ?v1) rfl (by kernel_rfl) (by kernel_rfl) (by kernel_rfl) (fun _ _ _ h => h) (Or.inl ⟨by rfl, ?y1⟩) trivial ?r1
              case y1 => (intro w hSw; (try dsimp only at hSw); go_simp; try with_reducible rfl)
              try simp only [Act.put, List.setIfInBounds_toArray, List.set_cons_zero, List.set_cons_succ]
              refine wpAnyH_take (i := 1) (oi := ⟨some 113, Op.move (Operand.tmp 13), 3, _, _, none⟩) (v := ?v2) rfl (by kernel_rfl) (by kernel_rfl) (by kernel_rfl) (fun _ _ _ h => h) (Or.inl ⟨by rfl, ?y2⟩) trivial ?r2
              case y2 => (intro w hSw; (try dsimp only at hSw); go_simp; try with_reducible rfl)
              try simp only [Act.put, List.setIfInBounds_toArray, List.set_cons_zero, List.set_cons_succ]
              refine wpAnyH_take (i := 2) (oi := ⟨some 114, Op.slice 51 (Operand.tmp 112) none (some (Operand.tmp 113)) none, 51, _, _, none⟩) (v := ?v3) rfl (by kernel_rfl) (by kernel_rfl) (by kernel_rfl) (fun _ _ _ h => h) (Or.inl ⟨by rfl, ?y3⟩) trivial ?r3
              case y3 => (intro w hSw; (try dsimp only at hSw); go_simp; try with_reducible rfl)
              try simp only [Act.put, List.setIfInBounds_toArray, List.set_cons_zero, List.set_cons_succ]
              refine wpAnyH_take (i := 4) (oi := ⟨some 116, Op.move (Operand.tmp 14), 51, _, _, none⟩) (v := ?v4) rfl (by kernel_rfl) (by kernel_rfl) (by kernel_rfl) (fun _ _ _ h => h) (Or.inl ⟨by rfl, ?y4⟩) trivial ?r4
              case y4 => (intro w hSw; (try dsimp only at hSw); go_simp; try with_reducible rfl)
              try simp only [Act.put, List.setIfInBounds_toArray, List.set_cons_zero, List.set_cons_succ]
              refine wpAnyH_take (i := 5) (oi := ⟨some 117, Op.move (Operand.tmp 13), 3, _, _, none⟩) (v := ?v5) rfl (by kernel_rfl) (by kernel_rfl) (by kernel_rfl) (fun _ _ _ h => h) (Or.inl ⟨by rfl, ?y5⟩) trivial ?r5
              case y5 => (intro w hSw; (try dsimp only at hSw); go_simp; try with_reducible rfl)
              try simp only [Act.put, List.setIfInBounds_toArray, List.set_cons_zero, List.set_cons_succ]
              refine wpAnyH_take (i := 6) (oi := ⟨some 118, Op.slice 51 (Operand.tmp 116) (some (Operand.tmp 117)) none none, 51, _, _, none⟩) (v := ?v6) rfl (by kernel_rfl) (by kernel_rfl) (by kernel_rfl) (fun _ _ _ h => h) (Or.inl ⟨by rfl, ?y6⟩) trivial ?r6
              case y6 => (intro w hSw; (try dsimp only at hSw); go_simp; try with_reducible rfl)
              try simp only [Act.put, List.setIfInBounds_toArray, List.set_cons_zero, List.set_cons_succ]
              refine wpAnyH_ready (rs := [3]) (by kernel_rfl) (by simp) ?r7
              refine AllReadyH.cons (o := ⟨some 115, Op.call { callee := Callee.value (Operand.func 168), args := #[Operand.tmp 114], argTypes := #[51] }, 164, _, _, none⟩) rfl (fun K hK => ?s7) AllReadyH.nil
              go_simp
              refine (newDecoder_any _ (all.take sp) _ (by exact hrt) ht15 htl).mono ?_; rintro e w8 ⟨⟨s1, rfl, hs1⟩, hb8⟩; simp only []; have hI8 := HI7.out.of_below hb8; have hrd8 := (show IRead w7.drew _ _ from hrd).below hb8; have hD1i := decC_inf (all.take sp) s1; have hD11 := decC_one (all.take sp) s1 (irow_one hs1); have hZ1 : Z.size = (decC (all.take sp) s1).size := (by rw [HZ.out]; rfl); have HDV1 : Hid (∀ w', IRow w' s1 (allC (all.take sp) 15) → DecV w' (all.take sp) (.agg (decC (all.take sp) s1))) := fun w' h => ⟨s1, rfl, h⟩; generalize decC (all.take sp) s1 = D1 at *; clear hb8
              refine hK.out _ _ trivial (fun hHeld => ?_)
              clear hK K
              try simp only [Act.put, List.setIfInBounds_toArray, List.set_cons_zero, List.set_cons_succ]
              refine wpAnyH_ready (rs := [7]) (by kernel_rfl) (by simp) ?r8
              refine AllReadyH.cons (o := ⟨some 119, Op.call { callee := Callee.value (Operand.func 168), args := #[Operand.tmp 118], argTypes := #[51] }, 164, _, _, none⟩) rfl (fun K hK => ?s8) AllReadyH.nil
              go_simp
              refine (newDecoder_any _ (all.drop sp) _ hrd8 hd15 hdl).mono ?_; rintro e w9 ⟨⟨s2, rfl, hs2⟩, hb9⟩; simp only []; have hI9 := hI8.of_below hb9; have hs19 := hs1.below hb9; have hD2i := decC_inf (all.drop sp) s2; have hD21 := decC_one (all.drop sp) s2 (irow_one hs2); have hZ2 : Z.size = (decC (all.drop sp) s2).size := (by rw [HZ.out]; rfl); have HDV2 : Hid (∀ w', IRow w' s2 (allC (all.drop sp) 15) → DecV w' (all.drop sp) (.agg (decC (all.drop sp) s2))) := fun w' h => ⟨s2, rfl, h⟩; generalize decC (all.drop sp) s2 = D2 at *; clear hb9 hI8 hs1 hrd8
              refine hK.out _ _ trivial (fun hHeld => ?_)
              clear hK K
              try simp only [Act.put, List.setIfInBounds_toArray, List.set_cons_zero, List.set_cons_succ]
              refine wpAnyH_ready (rs := [8]) (by kernel_rfl) (by simp) ?r9
              refine AllReadyH.cons (o := ⟨none, Op.store 164 (Operand.tmp 2) (Operand.tmp 115), 0, _, _, none⟩) rfl (fun K hK => ?s9) AllReadyH.nil
              refine wp_store_row 164 (.tmp 2) (.tmp 115) rfl B D1 (by rfl) (by rfl) 164 Z hI9.a hD1i hZ1 hD11 ?_
              refine hK.out _ _ trivial (fun hHeld => ?_)
              clear hK K
              try simp only [Act.put]
              refine wpAnyH_ready (rs := [9]) (by kernel_rfl) (by simp) ?r10
              refine AllReadyH.cons (o := ⟨none, Op.store 164 (Operand.tmp 3) (Operand.tmp 119), 0, _, _, none⟩) rfl (fun K hK => ?s10) AllReadyH.nil
              refine wp_store_row 164 (.tmp 3) (.tmp 119) rfl (B + 1) D2 (by rfl) (by rfl) 164 Z (hI9.c.setRow_ne D1 (by omega)) hD2i hZ2 hD21 ?_
              refine hK.out _ _ trivial (fun hHeld => ?_)
              clear hK K
              try simp only [Act.put]
              refine wpAnyH_take (i := 10) (oi := ⟨some 4, Op.assign (Operand.const (Value.int IntKind.i64 0)), 23, _, _, none⟩) (v := ?v11) rfl (by kernel_rfl) (by kernel_rfl) (by kernel_rfl) (fun _ _ _ h => h) (Or.inl ⟨by rfl, ?y11⟩) trivial ?r11
              case y11 => (intro w hSw; (try dsimp only at hSw); go_simp; try with_reducible rfl)
              try simp only [Act.put, List.setIfInBounds_toArray, List.set_cons_zero, List.set_cons_succ]
              refine wpAnyH_done (by kernel_rfl) ?_ _
              have hA10 := (hI9.a.setRow D1).setRow_ne D2 (g := B + 1) (by omega)
              have hC9 := hI9.c.setRow_ne D1 (g := B) (by omega)
              have hC10 := hC9.setRow D2
              have hz10 := (hI9.z.setRow_ne D1 (g := B) (Blk.apart hI9.z hI9.a (by decide))).setRow_ne D2 (g := B + 1) (Blk.apart hI9.z hI9.c (by decide))
              have hu10 := (hs19.setRow hI9.a (by decide) D1).setRow hC9 (by decide) D2
              have hv10 := (hs2.setRow hI9.a (by decide) D1).setRow hC9 (by decide) D2
              have hf10 : Fr zb [141] w ((w9.setRow B D1).setRow (B + 1) D2) :=
                ⟨hI9.f.os, hI9.f.tape, hI9.f.output, by simp [World.setRow]; exact hI9.f.size, fun k hk hc => by
                  have hkB : k < B := by have := HB.out; omega
                  exact ((heap_setRow_ne _ _ _ _ (by omega)).trans (heap_setRow_ne _ _ _ _ (by omega))).trans (hI9.f.block k hk hc)⟩
              have HA := Lib.hid hA10
              have HC := Lib.hid hC10
              have HZ10 := Lib.hid hz10
              have HU := Lib.hid hu10
              have HV := Lib.hid hv10
              have HF := Lib.hid hf10
              have HD1i := Lib.hid hD1i
              have HD2i := Lib.hid hD2i
              clear hA10 hC9 hC10 hz10 hu10 hv10 hf10 hD1i hD2i hI9 hs19 hs2 hD11 hD21 hZ1 hZ2
              generalize (w9.setRow B D1).setRow (B + 1) D2 = w10 at *
              go_wp2_with fail
              refine bodyPost_ret (v := .tuple #[.agg D1, .agg D2, .int .i64 0]) (results_two_rows_tmp rfl _ _ B (B + 1) 164 D1 D2 (0, 0) _ _ rfl rfl (by rfl) HA.out HC.out Tryz.underlying164 rfl HD1i.out HD2i.out) rfl ⟨?_, HF.out⟩
              rw [HE.out]
              exact ⟨⟨_, _, rfl, HDV1.out _ HU.out, HDV2.out _ HV.out⟩, p5, hp5, rfl, HZ10.out⟩
            · rw [if_neg hdr] at hEE
              rw [decide_eq_false hdr]
              have HE := Lib.hid hEE
              clear hEE hdr
              go_wp2_with (first | refine wpList_buildTo rfl 164 #[] rfl _ rfl Z (by simp; exact HZB.out) ?_ | refine wpList_store_same rfl 164 (.tmp 2) _ rfl rfl B Z (by rfl) (by rfl) 164 hA HZI.out HZ1.out ?_ | refine wpList_store_same rfl 164 (.tmp 3) _ rfl rfl (B + 1) Z (by rfl) (by rfl) 164 hC HZI.out HZ1.out ?_)
              refine bodyPost_ret (v := .tuple #[.agg Z, .agg Z, .int .i64 4]) (results_two_rows_tmp rfl _ _ B (B + 1) 164 Z Z (0, 0) _ _ rfl rfl (by rfl) hA hC Tryz.underlying164 rfl HZI.out HZI.out) rfl ⟨?_, hfr⟩
              rw [HE.out]
              show _ = _
              rw [HZ.out]
              rfl
end Go.Proofs.YthbejefodelpkaaGreat
