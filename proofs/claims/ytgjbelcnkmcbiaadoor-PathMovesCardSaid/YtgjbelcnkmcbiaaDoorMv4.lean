/-
  Walks: the identity and translations of the reference; the law: the identity and translations by whole pixels.
-/
import Derived.Test.YtgjbelcnkmcbiaaDoorMv3
import Derived.Test.YtgjbelcnkmcbiaaDoorRb4
import Derived.Test.YtgjbelcnkmcbiaaDoorQy3
import Derived.Test.YtgjbelcnkmcbiaaDoorRw
namespace Go.Proofs.YtgjbelcnkmcbiaaDoor
open Go.RowKit

theorem af_inf (a b c d e f : Int) : (Tryd.prog.info? 45).map (·.size) = some (#[Value.int .i64 a, .int .i64 b, .int .i64 c, .int .i64 d, .int .i64 e, .int .i64 f]).size := by show _ = some 6; kernel_rfl
set_option maxRecDepth 100000 in
set_option maxHeartbeats 2000000 in
theorem rsame_any (w : World) : Calls Tryd.prog 30 #[] w fun e w' => e = .returned (.agg #[.int .i64 65536, .int .i64 0, .int .i64 0, .int .i64 65536, .int .i64 0, .int .i64 0]) ∧ Below w.heap.size w w' := by
  have HK := Lib.hid (Blk.new w 45 #[.int .i64 65536, .int .i64 0, .int .i64 0, .int .i64 65536, .int .i64 0, .int .i64 0])
  have HB := Lib.hid ((Below.refl w.heap.size w).alloc (Nat.le_refl _) (.cells #[.int .i64 65536, .int .i64 0, .int .i64 0, .int .i64 65536, .int .i64 0, .int .i64 0] 45))
  have HI := Lib.hid (af_inf 65536 0 0 65536 0 0)
  go_enter Tryd.func30, Tryd.ntmps30
  go_wp2_with fail
  exact bodyPost_ret (results_cell_row rfl _ _ w.heap.size 45 _ (0, 0) _ rfl HK.out Tryd.underlying45 rfl HI.out) rfl ⟨rfl, HB.out⟩
set_option maxRecDepth 100000 in
set_option maxHeartbeats 2000000 in
theorem rmove_any (x y : Int) (hx : -1000 ≤ x ∧ x ≤ 1000) (hy : -1000 ≤ y ∧ y ≤ 1000) (w : World) : Calls Tryd.prog 31 #[.int .i64 x, .int .i64 y] w fun e w' => e = .returned (.agg (afC (mvA x y))) ∧ Below w.heap.size w w' := by
  have HS := Lib.hid (fun w => rsame_any w)
  have HC1 := Lib.hid (fun w => rclampA_any x (-1048576) 1048576 w)
  have HC2 := Lib.hid (fun w => rclampA_any y (-1048576) 1048576 w)
  have e1 : clP x (-1048576) 1048576 = x := by unfold clP; omega
  have e2 : clP y (-1048576) 1048576 = y := by unfold clP; omega
  rw [e1] at HC1
  rw [e2] at HC2
  have w1 : wrap64 (x * 65536) = x * 65536 := by unfold wrap64; omega
  have w2 : wrap64 (y * 65536) = y * 65536 := by unfold wrap64; omega
  have HR : Hid (afC (mvA x y) = #[.int .i64 65536, .int .i64 0, .int .i64 0, .int .i64 65536, .int .i64 (x * 65536), .int .i64 (y * 65536)]) := rfl
  clear e1 e2
  have HI := Lib.hid (af_inf 65536 0 0 65536 (x * 65536) (y * 65536))
  have HR0 := Lib.hid (Blk.new w 45 #[.int .i64 0, .int .i64 0, .int .i64 0, .int .i64 0, .int .i64 0, .int .i64 0])
  have HB0 := Lib.hid ((Below.refl w.heap.size w).alloc (Nat.le_refl _) (.cells #[.int .i64 0, .int .i64 0, .int .i64 0, .int .i64 0, .int .i64 0, .int .i64 0] 45))
  go_enter Tryd.func31, Tryd.ntmps31
  go_wp2_with fail
  refine (HS.out _).mono ?_
  rintro e w1 ⟨rfl, hb1⟩
  have HR1 : Hid (Blk (w1.alloc (.cells #[.int .i64 65536, .int .i64 0, .int .i64 0, .int .i64 65536, .int .i64 0, .int .i64 0] 45)) w.heap.size 45 #[.int .i64 0, .int .i64 0, .int .i64 0, .int .i64 0, .int .i64 0, .int .i64 0]) := (HR0.out.keep hb1).alloc _
  have HK1 : Hid (Blk (w1.alloc (.cells #[.int .i64 65536, .int .i64 0, .int .i64 0, .int .i64 65536, .int .i64 0, .int .i64 0] 45)) w1.heap.size 45 #[.int .i64 65536, .int .i64 0, .int .i64 0, .int .i64 65536, .int .i64 0, .int .i64 0]) := Blk.new w1 _ _
  have hb2 := HB0.out.trans (hb1.mono HB0.out.size)
  have HB1 : Hid (Below w.heap.size w (w1.alloc (.cells #[.int .i64 65536, .int .i64 0, .int .i64 0, .int .i64 65536, .int .i64 0, .int .i64 0] 45))) := hb2.alloc hb2.size _
  have HNE : Hid (w.heap.size < w1.heap.size) := (HR0.out.keep hb1).lt
  clear hb1 hb2 HR0 HB0 HS
  go_upto_region 2 with fail
  generalize w1.alloc (.cells #[.int .i64 65536, .int .i64 0, .int .i64 0, .int .i64 65536, .int .i64 0, .int .i64 0] 45) = w2 at *
  generalize w1.heap.size = C at *
  obtain ⟨A, hA⟩ : ∃ A, A = w.heap.size := ⟨_, rfl⟩
  rw [← hA] at HR1 HB1 HNE ⊢
  have HAE := Lib.hid hA
  have k4 := HK1.out.cell 4
  have k5 := HK1.out.cell 5
  have f4 := HK1.out.frozen 4
  have f5 := HK1.out.frozen 5
  clear hA
  go_wp2_with fail
  refine (HC1.out _).mono ?_
  rintro e w' ⟨rfl, rfl⟩
  go_wp2_with fail
  refine (HC2.out _).mono ?_
  rintro e w' ⟨rfl, rfl⟩
  go_upto_region 3 with fail
  have HK3 : Hid (Blk ((w2.setCell ⟨C, 4, none⟩ (.int .i64 (x * 65536))).setCell ⟨C, 5, none⟩ (.int .i64 (y * 65536))) C 45 #[.int .i64 65536, .int .i64 0, .int .i64 0, .int .i64 65536, .int .i64 (x * 65536), .int .i64 (y * 65536)]) := (HK1.out.put 4 (.int .i64 (x * 65536))).put 5 (.int .i64 (y * 65536))
  have HR3 : Hid (Blk ((w2.setCell ⟨C, 4, none⟩ (.int .i64 (x * 65536))).setCell ⟨C, 5, none⟩ (.int .i64 (y * 65536))) A 45 #[.int .i64 0, .int .i64 0, .int .i64 0, .int .i64 0, .int .i64 0, .int .i64 0]) := (HR1.out.other (p := ⟨C, _, none⟩) (by show A ≠ C; have := HNE.out; omega) _).other (p := ⟨C, _, none⟩) (by show A ≠ C; have := HNE.out; omega) _
  have HB3 : Hid (Below A w ((w2.setCell ⟨C, 4, none⟩ (.int .i64 (x * 65536))).setCell ⟨C, 5, none⟩ (.int .i64 (y * 65536)))) := (HB1.out.setCell (Nat.le_of_lt HNE.out) _).setCell (Nat.le_of_lt HNE.out) _
  clear HK1 HR1 HB1 k4 k5 f4 f5
  generalize ((w2.setCell ⟨C, 4, none⟩ (.int .i64 (x * 65536))).setCell ⟨C, 5, none⟩ (.int .i64 (y * 65536))) = w3 at *
  have k0 := HK3.out.cell 0
  have k1 := HK3.out.cell 1
  have k2 := HK3.out.cell 2
  have k3 := HK3.out.cell 3
  have k4 := HK3.out.cell 4
  have k5 := HK3.out.cell 5
  obtain ⟨T, hT⟩ : ∃ T : Array Value, T = #[.int .i64 65536, .int .i64 0, .int .i64 0, .int .i64 65536, .int .i64 (x * 65536), .int .i64 (y * 65536)] := ⟨_, rfl⟩
  have HT1 : Hid (T.all (·.oneCell') = true) := by show _ = _; rw [hT]; simp [Value.oneCell']
  have HSZ : Hid (#[Value.int .i64 0, .int .i64 0, .int .i64 0, .int .i64 0, .int .i64 0, .int .i64 0].size = T.size) := by show _ = _; rw [hT]; rfl
  rw [← hT] at HI HK3 HR
  have HTI := HI
  clear hT k0 k1 k2 k3 k4 k5
  go_wp2_with (first | refine wpList_load_row rfl 45 (.tmp 5) rfl C (by rfl) 45 T (0, 0) _ (by exact HK3.out) Tryd.underlying45 rfl (by exact HTI.out) ?_ | refine wpList_store_rowTo rfl 45 (.tmp 4) (.tmp 15) rfl rfl A T (by rfl) (by rfl) 45 _ (by exact HR3.out) (by exact HTI.out) (by exact HSZ.out) (by exact HT1.out) ?_)
  refine bodyPost_ret (v := .agg T) ?_ ?_ ?_
  · exact results_cell_row rfl _ _ A 45 T (0, 0) _ rfl (HR3.out.rset T) Tryd.underlying45 rfl HTI.out
  · rfl
  · exact ⟨by rw [HR.out], by rw [← HAE.out]; exact below_rset HB3.out (Nat.le_refl _) _⟩
end Go.Proofs.YtgjbelcnkmcbiaaDoor
