/-
  Walks: affine transforms of the program.
-/
import Derived.Test.YtgjbelcnkmcbiaaDoorQc
import Derived.Test.YtgjbelcnkmcbiaaDoorNum
import Derived.Test.YtgjbelcnkmcbiaaDoorQf
import Derived.Test.YtgjbelcnkmcbiaaDoorQt
import Derived.Lib.MinMax
namespace Go.Proofs.YtgjbelcnkmcbiaaDoor
open Go.RowKit

/-- A transform: A, B, C, D, E, F. -/
structure Af where
  a : Int
  b : Int
  c : Int
  d : Int
  e : Int
  f : Int
deriving DecidableEq
def afC (t : Af) : Array Value := #[.int .i64 t.a, .int .i64 t.b, .int .i64 t.c, .int .i64 t.d, .int .i64 t.e, .int .i64 t.f]
def clP (x lo hi : Int) : Int := min hi (max x lo)
def facP (x : Int) : Int := clP x (-16777216) 16777216
def plcP (x : Int) : Int := clP x (-1099511627776) 1099511627776
def limP (t : Af) : Af := ⟨facP t.a, facP t.b, facP t.c, facP t.d, plcP t.e, plcP t.f⟩
def dotP (a x c y : Int) : Int := a * (x / 65536) + c * (y / 65536) + rdI (a * (x % 65536) + c * (y % 65536)) 65536
def apP (t : Af) (x y : Int) : Pt :=
  (plcP (dotP (limP t).a (plcP x) (limP t).c (plcP y) + (limP t).e), plcP (dotP (limP t).b (plcP x) (limP t).d (plcP y) + (limP t).f))
def imgP (t : Af) (p : Pt) : Pt := (rdI (apP t (wrap64 (4096 * p.1)) (wrap64 (4096 * p.2))).1 4096, rdI (apP t (wrap64 (4096 * p.1)) (wrap64 (4096 * p.2))).2 4096)
def afChk (t : Af) : Int := if t = limP t then 0 else 2
theorem fac_b (x : Int) : -16777216 ≤ facP x ∧ facP x ≤ 16777216 := by unfold facP clP; omega
theorem plc_b (x : Int) : -1099511627776 ≤ plcP x ∧ plcP x ≤ 1099511627776 := by unfold plcP clP; omega
theorem mulA_b (a b M N : Int) (ha : -M ≤ a ∧ a ≤ M) (hb : -N ≤ b ∧ b ≤ N) (hM : 0 ≤ M) (hN : 0 ≤ N) : -(M * N) ≤ a * b ∧ a * b ≤ M * N := by
  have h1 : (a * b).natAbs ≤ (M * N).natAbs := by
    rw [Int.natAbs_mul, Int.natAbs_mul]
    exact Nat.mul_le_mul (by omega) (by omega)
  have h2 : 0 ≤ M * N := Int.mul_nonneg hM hN
  omega

theorem eqAf (s t : Af) (w : World) : (Op.equalIn 10000 45 (.agg (afC s)) (.agg (afC t))).run Tryd.prog w = .ok (decide (s = t)) w := by
  have u3 := Tryd.underlying3
  have a3 := Tryd.isAgg3
  have z3 := Tryd.sizeOf3
  obtain ⟨a, b, c, d, e, f⟩ := s
  obtain ⟨a', b', c', d', e', f'⟩ := t
  unfold afC
  simp only
  have hS : Tryd.prog.underlying 45 = some (.struct (Tryd.prog.fieldsOf 45)) := by kernel_rfl
  rw [show (10000 : Nat) = 9999 + 1 from rfl, run_equalIn_agg w 9999 45 _ _ hS (by kernel_rfl)]
  simp only [Program.fieldsOf, Tryd.underlying45]
  go_simp
  by_cases h1 : a = a' <;> by_cases h2 : b = b' <;> by_cases h3 : c = c' <;> by_cases h4 : d = d' <;> by_cases h5 : e = e' <;> by_cases h6 : f = f' <;> simp [h1, h2, h3, h4, h5, h6]
theorem afC_inf (t : Af) : (Tryd.prog.info? 45).map (·.size) = some (afC t).size := by show _ = some 6; kernel_rfl
theorem rd_bnd (x b M : Int) (hb : 0 < b) (h1 : -M ≤ x) (h2 : x ≤ M) (hM : 0 ≤ M) : -M ≤ rdI x b ∧ rdI x b ≤ M := by
  have h3 : -M ≤ b * (-M) + 0 ∨ True := .inr trivial
  constructor
  · calc -M = rdI (b * (-M)) b := (rd_mul (-M) b hb).symm
      _ ≤ rdI x b := Int.ediv_le_ediv (by omega) (by
          have : b * (-M) ≤ -M := by
            have := Int.mul_le_mul_of_nonneg_right (show 1 ≤ b by omega) hM
            rw [Int.mul_neg]; omega
          omega)
  · calc rdI x b ≤ rdI (b * M) b := Int.ediv_le_ediv (by omega) (by
          have := Int.mul_le_mul_of_nonneg_right (show 1 ≤ b by omega) hM
          omega)
      _ = M := rd_mul M b hb
theorem ptC_inf (a b : Int) : (Tryd.prog.info? 32).map (·.size) = some (#[Value.int .i64 a, .int .i64 b]).size := by show _ = some 2; kernel_rfl
theorem calls_eq_drewN {P : Program} {f : FuncId} {args : Array Value} {w : World} {v : Value} (h : Calls P f args w fun e w' => e = .returned v ∧ w = w') : Calls P f args w fun e w' => e = .returned v ∧ ∃ n, w' = w.drewN n :=
  h.mono fun _ _ ⟨he, hb⟩ => ⟨he, 0, hb.symm⟩
theorem dot_b (a x c y : Int) (ha : -16777216 ≤ a ∧ a ≤ 16777216) (hc : -16777216 ≤ c ∧ c ≤ 16777216) (hx : -1099511627776 ≤ x ∧ x ≤ 1099511627776) (hy : -1099511627776 ≤ y ∧ y ≤ 1099511627776) :
    -1125899906842624 ≤ dotP a x c y ∧ dotP a x c y ≤ 1125899906842624 := by
  have b1 := mulA_b a (x / 65536) 16777216 16777216 ha (by omega) (by decide) (by decide)
  have b2 := mulA_b c (y / 65536) 16777216 16777216 hc (by omega) (by decide) (by decide)
  have b3 := mulA_b a (x % 65536) 16777216 65536 ha (by omega) (by decide) (by decide)
  have b4 := mulA_b c (y % 65536) 16777216 65536 hc (by omega) (by decide) (by decide)
  have h := rd_bnd (a * (x % 65536) + c * (y % 65536)) 65536 281474976710656 (by decide) (by omega) (by omega) (by decide)
  unfold dotP
  omega
--BODY
theorem clamp_any (x lo hi : Int) (w : World) : Calls Tryd.prog 88 #[.int .i64 x, .int .i64 lo, .int .i64 hi] w fun e w' => e = .returned (.int .i64 (clP x lo hi)) ∧ w = w' := by
  have HR : Hid (clP x lo hi = min hi (max x lo)) := rfl
  go_enter Tryd.func88, Tryd.ntmps88
  go_wp2_with fail
  go_ret
  exact ⟨by rw [HR.out]; rfl, rfl⟩
theorem factor_any (x : Int) (w : World) : Calls Tryd.prog 73 #[.int .i64 x] w fun e w' => e = .returned (.int .i64 (facP x)) ∧ w = w' := by
  have HC := Lib.hid (fun w => clamp_any x (-16777216) 16777216 w)
  go_enter Tryd.func73, Tryd.ntmps73
  go_wp2_with fail
  refine (HC.out _).mono ?_
  rintro e w' ⟨rfl, rfl⟩
  go_wp2_with fail
  go_ret
  exact ⟨rfl, rfl⟩
theorem place1_any (x : Int) (w : World) : Calls Tryd.prog 74 #[.int .i64 x] w fun e w' => e = .returned (.int .i64 (plcP x)) ∧ w = w' := by
  have HC := Lib.hid (fun w => clamp_any x (-1099511627776) 1099511627776 w)
  go_enter Tryd.func74, Tryd.ntmps74
  go_wp2_with fail
  refine (HC.out _).mono ?_
  rintro e w' ⟨rfl, rfl⟩
  go_wp2_with fail
  go_ret
  exact ⟨rfl, rfl⟩

set_option maxRecDepth 100000 in
set_option maxHeartbeats 2000000 in
theorem limited_any (t : Af) (w : World) : Calls Tryd.prog 58 #[.agg (afC t)] w fun e w' => e = .returned (.agg (afC (limP t))) ∧ Below w.heap.size w w' := by
  obtain ⟨a, b, c, d, e0, f⟩ := t
  have HA := Lib.hid (fun w => factor_any a w)
  have HB := Lib.hid (fun w => factor_any b w)
  have HC := Lib.hid (fun w => factor_any c w)
  have HD := Lib.hid (fun w => factor_any d w)
  have HE := Lib.hid (fun w => place1_any e0 w)
  have HF := Lib.hid (fun w => place1_any f w)
  have HR : Hid (∀ v, v = Value.agg #[.int .i64 (facP a), .int .i64 (facP b), .int .i64 (facP c), .int .i64 (facP d), .int .i64 (plcP e0), .int .i64 (plcP f)] → v = .agg (afC (limP ⟨a, b, c, d, e0, f⟩))) := fun v h => h
  have HIN : Hid (∀ a b c d e f : Int, (Tryd.prog.info? 45).map (·.size) = some (#[Value.int .i64 a, .int .i64 b, .int .i64 c, .int .i64 d, .int .i64 e, .int .i64 f]).size) := fun a b c d e f => afC_inf ⟨a, b, c, d, e, f⟩
  obtain ⟨LT, hLT⟩ : ∃ LT, limP ⟨a, b, c, d, e0, f⟩ = LT := ⟨_, rfl⟩
  rw [hLT] at HR ⊢
  clear hLT
  unfold afC at HR ⊢
  simp only
  go_enter Tryd.func58, Tryd.ntmps58
  go_upto_region 1 with fail
  obtain ⟨wk, hwk⟩ : ∃ wk, wk = ((w.alloc (.cells #[.int .i64 a, .int .i64 b, .int .i64 c, .int .i64 d, .int .i64 e0, .int .i64 f] 45)).alloc (.cells #[.int .i64 0, .int .i64 0, .int .i64 0, .int .i64 0, .int .i64 0, .int .i64 0] 45)) := ⟨_, rfl⟩
  have hA : Blk wk w.heap.size 45 #[.int .i64 a, .int .i64 b, .int .i64 c, .int .i64 d, .int .i64 e0, .int .i64 f] := by rw [hwk]; exact (Blk.new _ _ _).alloc _
  have hB : Blk wk (w.heap.size + 1) 45 #[.int .i64 0, .int .i64 0, .int .i64 0, .int .i64 0, .int .i64 0, .int .i64 0] := by rw [hwk]; exact Blk.new_at (by simp) _ _
  have hW : Below w.heap.size w wk := by rw [hwk]; exact ((Below.refl _ _).alloc (Nat.le_refl _) _).alloc (by simp) _
  rw [← hwk]
  clear hwk
  have HAE : Hid (∃ A, A = w.heap.size) := ⟨_, rfl⟩
  obtain ⟨A, hAe⟩ := HAE.out
  have HAE := Lib.hid hAe
  rw [← hAe] at hA hB hW
  rw [← hAe]
  have HAW : Hid (A ≤ A + 1) := Nat.le_succ A
  clear hAe
  generalize A + 1 = B at *
  obtain ⟨K0, hK0⟩ : ∃ K0, K0 = wk.heap.size := ⟨_, rfl⟩
  have HKB : Hid (∀ u : BW K0 wk, ∀ k, k < wk.heap.size → u.w.heap[k]? = wk.heap[k]?) := fun u k hk => u.b.block k (by omega)
  have HW : Hid (∀ u : BW K0 wk, Below A w u.w) := fun u => hW.trans (u.b.mono (by have := hA.lt; omega))
  have c0 : ∀ u : BW K0 wk, u.w.cell? ⟨A, 0, none⟩ = some (.int .i64 a) := fun u => Blk.cell ((HKB.out u A hA.lt).trans hA) 0
  have c1 : ∀ u : BW K0 wk, u.w.cell? ⟨A, 1, none⟩ = some (.int .i64 b) := fun u => Blk.cell ((HKB.out u A hA.lt).trans hA) 1
  have c2 : ∀ u : BW K0 wk, u.w.cell? ⟨A, 2, none⟩ = some (.int .i64 c) := fun u => Blk.cell ((HKB.out u A hA.lt).trans hA) 2
  have c3 : ∀ u : BW K0 wk, u.w.cell? ⟨A, 3, none⟩ = some (.int .i64 d) := fun u => Blk.cell ((HKB.out u A hA.lt).trans hA) 3
  have c4 : ∀ u : BW K0 wk, u.w.cell? ⟨A, 4, none⟩ = some (.int .i64 e0) := fun u => Blk.cell ((HKB.out u A hA.lt).trans hA) 4
  have c5 : ∀ u : BW K0 wk, u.w.cell? ⟨A, 5, none⟩ = some (.int .i64 f) := fun u => Blk.cell ((HKB.out u A hA.lt).trans hA) 5
  have HBB : Hid (∀ u : BW K0 wk, Blk u.w B 45 #[.int .i64 0, .int .i64 0, .int .i64 0, .int .i64 0, .int .i64 0, .int .i64 0]) := fun u => (HKB.out u B hB.lt).trans hB
  clear hA hB hW hK0
  refine wp_region_bw_tail K0 wk 19 (Below.refl _ _) (by kernel_rfl) (by kernel_rfl) ?_
  simp only [List.take_succ_cons, List.take_zero, List.drop_succ_cons, List.drop_zero]
  repeat (go_big_quiet_step (first
    | (go_at_call_of 73 (Value.int .i64 a); exact calls_bw_same (HA.out _))
    | (go_at_call_of 73 (Value.int .i64 b); exact calls_bw_same (HB.out _))
    | (go_at_call_of 73 (Value.int .i64 c); exact calls_bw_same (HC.out _))
    | (go_at_call_of 73 (Value.int .i64 d); exact calls_bw_same (HD.out _))
    | (go_at_call_of 74 (Value.int .i64 e0); exact calls_bw_same (HE.out _))
    | (go_at_call_of 74 (Value.int .i64 f); exact calls_bw_same (HF.out _))))
  refine wpQuiet_nil ?_
  rintro _ ⟨u, rfl⟩
  have HBU := Lib.hid (HBB.out u)
  have HWU := Lib.hid (HW.out u)
  generalize u.w = wy at *
  clear c0 c1 c2 c3 c4 c5 HKB HBB HW HA HB HC HD HE HF
  have m0 := HBU.out.cell 0
  have m1 := HBU.out.cell 1
  have m2 := HBU.out.cell 2
  have m3 := HBU.out.cell 3
  have m4 := HBU.out.cell 4
  have m5 := HBU.out.cell 5
  have f0 := HBU.out.frozen 0
  have f1 := HBU.out.frozen 1
  have f2 := HBU.out.frozen 2
  have f3 := HBU.out.frozen 3
  have f4 := HBU.out.frozen 4
  have f5 := HBU.out.frozen 5
  generalize facP a = za at *
  generalize facP b = zb at *
  generalize facP c = zc at *
  generalize facP d = zd at *
  generalize plcP e0 = ze at *
  generalize plcP f = zf at *
  have HWF : Hid (Below A w ((((((wy.setCell ⟨B, 0, none⟩ (.int .i64 za)).setCell ⟨B, 1, none⟩ (.int .i64 zb)).setCell ⟨B, 2, none⟩ (.int .i64 zc)).setCell ⟨B, 3, none⟩ (.int .i64 zd)).setCell ⟨B, 4, none⟩ (.int .i64 ze)).setCell ⟨B, 5, none⟩ (.int .i64 zf))) := ((((((HWU.out.setCell HAW.out _).setCell HAW.out _).setCell HAW.out _).setCell HAW.out _).setCell HAW.out _).setCell HAW.out _)
  have HFI : Hid (Blk ((((((wy.setCell ⟨B, 0, none⟩ (.int .i64 za)).setCell ⟨B, 1, none⟩ (.int .i64 zb)).setCell ⟨B, 2, none⟩ (.int .i64 zc)).setCell ⟨B, 3, none⟩ (.int .i64 zd)).setCell ⟨B, 4, none⟩ (.int .i64 ze)).setCell ⟨B, 5, none⟩ (.int .i64 zf)) B 45 #[.int .i64 za, .int .i64 zb, .int .i64 zc, .int .i64 zd, .int .i64 ze, .int .i64 zf]) := ((((((HBU.out.put 0 (.int .i64 za)).put 1 (.int .i64 zb)).put 2 (.int .i64 zc)).put 3 (.int .i64 zd)).put 4 (.int .i64 ze)).put 5 (.int .i64 zf))
  go_wp2_with fail
  exact bodyPost_ret (results_cell_row rfl _ _ B 45 _ (0, 0) _ rfl HFI.out Tryd.underlying45 rfl (HIN.out _ _ _ _ _ _)) rfl ⟨by rw [HR.out _ rfl], by rw [← HAE.out]; exact HWF.out⟩

set_option maxRecDepth 100000 in
set_option maxHeartbeats 2000000 in
theorem dot_any (a x c y : Int) (ha : -16777216 ≤ a ∧ a ≤ 16777216) (hc : -16777216 ≤ c ∧ c ≤ 16777216) (hx : -1099511627776 ≤ x ∧ x ≤ 1099511627776) (hy : -1099511627776 ≤ y ∧ y ≤ 1099511627776) (w : World) :
    Calls Tryd.prog 75 #[.int .i64 a, .int .i64 x, .int .i64 c, .int .i64 y] w fun e w' => e = .returned (.int .i64 (dotP a x c y)) ∧ Below w.heap.size w w' := by
  have HF1 := Lib.hid (fun w => floorI_any x 65536 w (by omega) (by omega) (by decide) (by decide))
  have HF2 := Lib.hid (fun w => floorI_any y 65536 w (by omega) (by omega) (by decide) (by decide))
  obtain ⟨i, j, hi, hj, hxl, hyl, hR⟩ : ∃ i j, x / 65536 = i ∧ y / 65536 = j ∧ (0 ≤ x - i * 65536 ∧ x - i * 65536 ≤ 65535) ∧ (0 ≤ y - j * 65536 ∧ y - j * 65536 ≤ 65535) ∧ dotP a x c y = a * i + c * j + rdI (a * (x - i * 65536) + c * (y - j * 65536)) 65536 :=
    ⟨_, _, rfl, rfl, by omega, by omega, by unfold dotP; rw [show x % 65536 = x - x / 65536 * 65536 by omega, show y % 65536 = y - y / 65536 * 65536 by omega]⟩
  have hib : -16777216 ≤ i ∧ i ≤ 16777216 := by omega
  have hjb : -16777216 ≤ j ∧ j ≤ 16777216 := by omega
  rw [hi] at HF1
  rw [hj] at HF2
  have b1 := mulA_b a i 16777216 16777216 ha hib (by decide) (by decide)
  have b2 := mulA_b c j 16777216 16777216 hc hjb (by decide) (by decide)
  have b3 := mulA_b a (x - i * 65536) 16777216 65536 ha (by omega) (by decide) (by decide)
  have b4 := mulA_b c (y - j * 65536) 16777216 65536 hc (by omega) (by decide) (by decide)
  have HDV := Lib.hid (fun w => divI_any (a * (x - i * 65536) + c * (y - j * 65536)) 65536 w (by omega) (by omega) (by decide) (by decide))
  have hrd : -281474976710656 ≤ rdI (a * (x - i * 65536) + c * (y - j * 65536)) 65536 ∧ rdI (a * (x - i * 65536) + c * (y - j * 65536)) 65536 ≤ 281474976710656 := rd_bnd _ 65536 281474976710656 (by decide) (by omega) (by omega) (by decide)
  have HR := Lib.hid hR
  clear hR hi hj
  have s1 : wrap64 (i * 65536) = i * 65536 := wrap64_of _ (by omega)
  have s2 : wrap64 (j * 65536) = j * 65536 := wrap64_of _ (by omega)
  have s3 : wrap64 (x - i * 65536) = x - i * 65536 := wrap64_of _ (by omega)
  have s4 : wrap64 (y - j * 65536) = y - j * 65536 := wrap64_of _ (by omega)
  generalize hxl' : x - i * 65536 = xl at *
  generalize hyl' : y - j * 65536 = yl at *
  have s5 : wrap64 (a * i) = a * i := wrap64_of _ (by omega)
  have s6 : wrap64 (c * j) = c * j := wrap64_of _ (by omega)
  have s7 : wrap64 (a * xl) = a * xl := wrap64_of _ (by omega)
  have s8 : wrap64 (c * yl) = c * yl := wrap64_of _ (by omega)
  have s9 : wrap64 (a * i + c * j) = a * i + c * j := wrap64_of _ (by omega)
  have s10 : wrap64 (a * xl + c * yl) = a * xl + c * yl := wrap64_of _ (by omega)
  have s11 : wrap64 (a * i + c * j + rdI (a * xl + c * yl) 65536) = a * i + c * j + rdI (a * xl + c * yl) 65536 := wrap64_of _ (by omega)
  clear ha hc hx hy hxl hyl hib hjb b1 b2 b3 b4 hrd
  go_enter Tryd.func75, Tryd.ntmps75
  go_wp2_with fail
  refine (HF1.out _).mono ?_
  rintro e w1 ⟨rfl, rfl⟩
  go_wp2_with fail
  refine (HF2.out _).mono ?_
  rintro e w1 ⟨rfl, rfl⟩
  go_wp2_with fail
  refine (HDV.out _).mono ?_
  rintro e w1 ⟨rfl, rfl⟩
  go_wp2_with fail
  go_ret
  exact ⟨by rw [HR.out]; exact congrArg (fun z => Ending.returned (Value.int .i64 z)) s11, Below.refl _ _⟩

set_option maxRecDepth 100000 in
set_option maxHeartbeats 4000000 in
theorem apply_any (t : Af) (px py : Int) (w : World) : Calls Tryd.prog 59 #[.agg (afC t), .agg #[.int .i64 px, .int .i64 py]] w fun e w' => e = .returned (.agg #[.int .i64 (apP t px py).1, .int .i64 (apP t px py).2]) ∧ Below w.heap.size w w' := by
  have HL := Lib.hid (fun w => limited_any t w)
  obtain ⟨la, lb, lc, ld, le, lf, hlt, b1, b2, b3, b4, b5, b6⟩ : ∃ la lb lc ld le lf, limP t = ⟨la, lb, lc, ld, le, lf⟩ ∧ (-16777216 ≤ la ∧ la ≤ 16777216) ∧ (-16777216 ≤ lb ∧ lb ≤ 16777216) ∧ (-16777216 ≤ lc ∧ lc ≤ 16777216) ∧ (-16777216 ≤ ld ∧ ld ≤ 16777216) ∧ (-1099511627776 ≤ le ∧ le ≤ 1099511627776) ∧ (-1099511627776 ≤ lf ∧ lf ≤ 1099511627776) :=
    ⟨_, _, _, _, _, _, rfl, fac_b _, fac_b _, fac_b _, fac_b _, plc_b _, plc_b _⟩
  obtain ⟨x, hx, bx⟩ : ∃ x, plcP px = x ∧ (-1099511627776 ≤ x ∧ x ≤ 1099511627776) := ⟨_, rfl, plc_b _⟩
  obtain ⟨y, hy, by_⟩ : ∃ y, plcP py = y ∧ (-1099511627776 ≤ y ∧ y ≤ 1099511627776) := ⟨_, rfl, plc_b _⟩
  have HX := Lib.hid (fun w => place1_any px w)
  have HY := Lib.hid (fun w => place1_any py w)
  rw [hx] at HX
  rw [hy] at HY
  have HD1 := Lib.hid (fun w => dot_any la x lc y b1 b3 bx by_ w)
  have HD2 := Lib.hid (fun w => dot_any lb x ld y b2 b4 bx by_ w)
  obtain ⟨d1, hd1, bd1⟩ : ∃ d1, dotP la x lc y = d1 ∧ (-1125899906842624 ≤ d1 ∧ d1 ≤ 1125899906842624) := ⟨_, rfl, dot_b la x lc y b1 b3 bx by_⟩
  obtain ⟨d2, hd2, bd2⟩ : ∃ d2, dotP lb x ld y = d2 ∧ (-1125899906842624 ≤ d2 ∧ d2 ≤ 1125899906842624) := ⟨_, rfl, dot_b lb x ld y b2 b4 bx by_⟩
  rw [hd1] at HD1
  rw [hd2] at HD2
  have s1 : wrap64 (d1 + le) = d1 + le := wrap64_of _ (by omega)
  have s2 : wrap64 (d2 + lf) = d2 + lf := wrap64_of _ (by omega)
  have HP1 := Lib.hid (fun w => place1_any (d1 + le) w)
  have HP2 := Lib.hid (fun w => place1_any (d2 + lf) w)
  have hR : apP t px py = (plcP (d1 + le), plcP (d2 + lf)) := by
    unfold apP
    rw [hx, hy, hlt]
    simp only [hd1, hd2]
  rw [hR]
  rw [hlt] at HL
  obtain ⟨r1, hr1⟩ : ∃ r1, plcP (d1 + le) = r1 := ⟨_, rfl⟩
  obtain ⟨r2, hr2⟩ : ∃ r2, plcP (d2 + lf) = r2 := ⟨_, rfl⟩
  rw [hr1] at HP1
  rw [hr2] at HP2
  rw [hr1, hr2]
  obtain ⟨ta, tb, tc, td, te, tf⟩ := t
  have HIN : Hid (∀ a b : Int, (Tryd.prog.info? 32).map (·.size) = some (#[Value.int .i64 a, .int .i64 b]).size) := fun a b => ptC_inf a b
  unfold afC at HL ⊢
  simp only at HL ⊢
  have hBk : ∀ (wz w1 : World), Below wz.heap.size wz w1 → ∀ {k ty cs}, Blk wz k ty cs → Blk w1 k ty cs := fun wz w1 hb k ty cs h => (hb.block k h.lt).trans h
  have HBK := Lib.hid hBk
  clear hBk hx hy hlt b1 b2 b3 b4 b5 b6 bx by_ hd1 hd2 bd1 bd2 hR hr1 hr2
  go_enter Tryd.func59, Tryd.ntmps59
  go_wp2_with fail
  obtain ⟨wk, hwk⟩ : ∃ wk, wk = (((w.alloc (.cells #[.int .i64 ta, .int .i64 tb, .int .i64 tc, .int .i64 td, .int .i64 te, .int .i64 tf] 45)).alloc (.cells #[.int .i64 px, .int .i64 py] 32)).alloc (.cells #[.int .i64 0, .int .i64 0] 32)) := ⟨_, rfl⟩
  have hA : Blk wk w.heap.size 45 #[.int .i64 ta, .int .i64 tb, .int .i64 tc, .int .i64 td, .int .i64 te, .int .i64 tf] := by rw [hwk]; exact ((Blk.new _ _ _).alloc _).alloc _
  have hB : Blk wk (w.heap.size + 1) 32 #[.int .i64 px, .int .i64 py] := by rw [hwk]; exact (Blk.new_at (by simp) _ _).alloc _
  have hC : Blk wk (w.heap.size + 2) 32 #[.int .i64 0, .int .i64 0] := by rw [hwk]; exact Blk.new_at (by simp) _ _
  have hW : Below w.heap.size w wk := by rw [hwk]; exact (((Below.refl _ _).alloc (Nat.le_refl _) _).alloc (by simp) _).alloc (by simp; omega) _
  rw [← hwk]
  clear hwk
  refine (HL.out _).mono ?_
  rintro e w1 ⟨rfl, hb1⟩
  have hA := HBK.out _ _ hb1 hA
  have hB := HBK.out _ _ hb1 hB
  have hC := HBK.out _ _ hb1 hC
  have hW := bthen hW hb1
  obtain ⟨A, hAe⟩ : ∃ A, A = w.heap.size := ⟨_, rfl⟩
  have HAE := Lib.hid hAe
  rw [← hAe] at hA hB hC hW
  rw [← hAe]
  have HW1 := Lib.hid hW
  have HAL := Lib.hid (show A ≤ A + 2 from Nat.le_add_right A 2)
  have n1 : A ≠ A + 1 := by omega
  have n2 : A ≠ A + 2 := by omega
  have n3 : A + 1 ≠ A + 2 := by omega
  generalize A + 2 = C at *
  generalize A + 1 = B at *
  clear hAe hb1 hW HL HBK
  have HA1 := Lib.hid hA
  have m0 := HA1.out.cell 0
  have m1 := HA1.out.cell 1
  have m2 := HA1.out.cell 2
  have m3 := HA1.out.cell 3
  have m4 := HA1.out.cell 4
  have m5 := HA1.out.cell 5
  have f0 := HA1.out.frozen 0
  have f1 := HA1.out.frozen 1
  have f2 := HA1.out.frozen 2
  have f3 := HA1.out.frozen 3
  have f4 := HA1.out.frozen 4
  have f5 := HA1.out.frozen 5
  have hA2 : Blk ((((((w1.setCell ⟨A, 0, none⟩ (.int .i64 la)).setCell ⟨A, 1, none⟩ (.int .i64 lb)).setCell ⟨A, 2, none⟩ (.int .i64 lc)).setCell ⟨A, 3, none⟩ (.int .i64 ld)).setCell ⟨A, 4, none⟩ (.int .i64 le)).setCell ⟨A, 5, none⟩ (.int .i64 lf)) A 45 #[.int .i64 la, .int .i64 lb, .int .i64 lc, .int .i64 ld, .int .i64 le, .int .i64 lf] := ((((((hA.put 0 (.int .i64 la)).put 1 (.int .i64 lb)).put 2 (.int .i64 lc)).put 3 (.int .i64 ld)).put 4 (.int .i64 le)).put 5 (.int .i64 lf))
  have hB2 : Blk ((((((w1.setCell ⟨A, 0, none⟩ (.int .i64 la)).setCell ⟨A, 1, none⟩ (.int .i64 lb)).setCell ⟨A, 2, none⟩ (.int .i64 lc)).setCell ⟨A, 3, none⟩ (.int .i64 ld)).setCell ⟨A, 4, none⟩ (.int .i64 le)).setCell ⟨A, 5, none⟩ (.int .i64 lf)) B 32 #[.int .i64 px, .int .i64 py] := (((((hB.other (p := ⟨A, 0, none⟩) (Ne.symm n1) _).other (p := ⟨A, 1, none⟩) (Ne.symm n1) _).other (p := ⟨A, 2, none⟩) (Ne.symm n1) _).other (p := ⟨A, 3, none⟩) (Ne.symm n1) _).other (p := ⟨A, 4, none⟩) (Ne.symm n1) _).other (p := ⟨A, 5, none⟩) (Ne.symm n1) _
  have hC2 : Blk ((((((w1.setCell ⟨A, 0, none⟩ (.int .i64 la)).setCell ⟨A, 1, none⟩ (.int .i64 lb)).setCell ⟨A, 2, none⟩ (.int .i64 lc)).setCell ⟨A, 3, none⟩ (.int .i64 ld)).setCell ⟨A, 4, none⟩ (.int .i64 le)).setCell ⟨A, 5, none⟩ (.int .i64 lf)) C 32 #[.int .i64 0, .int .i64 0] := (((((hC.other (p := ⟨A, 0, none⟩) (Ne.symm n2) _).other (p := ⟨A, 1, none⟩) (Ne.symm n2) _).other (p := ⟨A, 2, none⟩) (Ne.symm n2) _).other (p := ⟨A, 3, none⟩) (Ne.symm n2) _).other (p := ⟨A, 4, none⟩) (Ne.symm n2) _).other (p := ⟨A, 5, none⟩) (Ne.symm n2) _
  have HWS : Hid (Below A w ((((((w1.setCell ⟨A, 0, none⟩ (.int .i64 la)).setCell ⟨A, 1, none⟩ (.int .i64 lb)).setCell ⟨A, 2, none⟩ (.int .i64 lc)).setCell ⟨A, 3, none⟩ (.int .i64 ld)).setCell ⟨A, 4, none⟩ (.int .i64 le)).setCell ⟨A, 5, none⟩ (.int .i64 lf))) := (((((HW1.out.setCell (Nat.le_refl A) _).setCell (Nat.le_refl A) _).setCell (Nat.le_refl A) _).setCell (Nat.le_refl A) _).setCell (Nat.le_refl A) _).setCell (Nat.le_refl A) _
  clear hA hB hC HA1 HW1
  have HA2 := Lib.hid hA2
  have HB2 := Lib.hid hB2
  have HC2 := Lib.hid hC2
  clear hA2 hB2 hC2
  go_upto_region 2 with fail
  generalize ((((((w1.setCell ⟨A, 0, none⟩ (.int .i64 la)).setCell ⟨A, 1, none⟩ (.int .i64 lb)).setCell ⟨A, 2, none⟩ (.int .i64 lc)).setCell ⟨A, 3, none⟩ (.int .i64 ld)).setCell ⟨A, 4, none⟩ (.int .i64 le)).setCell ⟨A, 5, none⟩ (.int .i64 lf)) = wz at *
  clear m0 m1 m2 m3 m4 m5 f0 f1 f2 f3 f4 f5
  have p0 := HB2.out.cell 0
  have p1 := HB2.out.cell 1
  go_quiet (first
    | (go_at_call_of 74 (Value.int .i64 px); exact Calls.quiet_of (calls_eq_drewN (HX.out _)))
    | (go_at_call_of 74 (Value.int .i64 py); exact Calls.quiet_of (calls_eq_drewN (HY.out _))))
  have HA3 : Hid (Blk (wz.drewN nq) A 45 #[.int .i64 la, .int .i64 lb, .int .i64 lc, .int .i64 ld, .int .i64 le, .int .i64 lf]) := HA2.out.drewN nq
  have HC3 : Hid (Blk (wz.drewN nq) C 32 #[.int .i64 0, .int .i64 0]) := HC2.out.drewN nq
  have HW3 : Hid (Below A w (wz.drewN nq)) := below_drewN HWS.out nq
  clear p0 p1 HX HY HA2 HB2 HC2 HWS
  generalize wz.drewN nq = wk at *
  go_upto_region 3 with fail
  obtain ⟨K0, hK0⟩ : ∃ K0, K0 = wk.heap.size := ⟨_, rfl⟩
  have HKB : Hid (∀ u : BW K0 wk, ∀ k, k < wk.heap.size → u.w.heap[k]? = wk.heap[k]?) := fun u k hk => u.b.block k (by omega)
  have HWu : Hid (∀ u : BW K0 wk, Below A w u.w) := fun u => HW3.out.trans (u.b.mono (by have := HA3.out.lt; omega))
  have HK0 : Hid (K0 ≤ wk.heap.size) := by show _ ≤ _; omega
  have c0 : ∀ u : BW K0 wk, u.w.cell? ⟨A, 0, none⟩ = some (.int .i64 la) := fun u => Blk.cell ((HKB.out u A HA3.out.lt).trans HA3.out) 0
  have c1 : ∀ u : BW K0 wk, u.w.cell? ⟨A, 1, none⟩ = some (.int .i64 lb) := fun u => Blk.cell ((HKB.out u A HA3.out.lt).trans HA3.out) 1
  have c2 : ∀ u : BW K0 wk, u.w.cell? ⟨A, 2, none⟩ = some (.int .i64 lc) := fun u => Blk.cell ((HKB.out u A HA3.out.lt).trans HA3.out) 2
  have c3 : ∀ u : BW K0 wk, u.w.cell? ⟨A, 3, none⟩ = some (.int .i64 ld) := fun u => Blk.cell ((HKB.out u A HA3.out.lt).trans HA3.out) 3
  have c4 : ∀ u : BW K0 wk, u.w.cell? ⟨A, 4, none⟩ = some (.int .i64 le) := fun u => Blk.cell ((HKB.out u A HA3.out.lt).trans HA3.out) 4
  have c5 : ∀ u : BW K0 wk, u.w.cell? ⟨A, 5, none⟩ = some (.int .i64 lf) := fun u => Blk.cell ((HKB.out u A HA3.out.lt).trans HA3.out) 5
  have HBB : Hid (∀ u : BW K0 wk, Blk u.w C 32 #[.int .i64 0, .int .i64 0]) := fun u => (HKB.out u C HC3.out.lt).trans HC3.out
  clear hK0 HA3 HC3 HW3
  refine wp_region_bw_tail K0 wk 23 (Below.refl _ _) (by kernel_rfl) (by kernel_rfl) ?_
  simp only [List.take_succ_cons, List.take_zero, List.drop_succ_cons, List.drop_zero]
  repeat (go_big_quiet_step (first
    | (go_at_call_of 75 (Value.int .i64 la); exact calls_bw HK0.out (HD1.out _))
    | (go_at_call_of 75 (Value.int .i64 lb); exact calls_bw HK0.out (HD2.out _))
    | (go_at_call_of 74 (Value.int .i64 (d1 + le)); exact calls_bw_same (HP1.out _))
    | (go_at_call_of 74 (Value.int .i64 (d2 + lf)); exact calls_bw_same (HP2.out _))))
  refine wpQuiet_nil ?_
  rintro _ ⟨u, rfl⟩
  have HBU := Lib.hid (HBB.out u)
  have HWU := Lib.hid (HWu.out u)
  generalize u.w = wy at *
  clear c0 c1 c2 c3 c4 c5 HKB HBB HWu HD1 HD2 HP1 HP2 s1 s2
  have q0 := HBU.out.cell 0
  have q1 := HBU.out.cell 1
  have g0 := HBU.out.frozen 0
  have g1 := HBU.out.frozen 1
  have HWF : Hid (Below A w ((wy.setCell ⟨C, 0, none⟩ (.int .i64 r1)).setCell ⟨C, 1, none⟩ (.int .i64 r2))) := (HWU.out.setCell HAL.out _).setCell HAL.out _
  have HFI : Hid (Blk ((wy.setCell ⟨C, 0, none⟩ (.int .i64 r1)).setCell ⟨C, 1, none⟩ (.int .i64 r2)) C 32 #[.int .i64 r1, .int .i64 r2]) := (HBU.out.put 0 (.int .i64 r1)).put 1 (.int .i64 r2)
  go_wp2_with fail
  exact bodyPost_ret (results_cell_row rfl _ _ C 32 _ (0, 0) _ rfl HFI.out Tryd.underlying32 rfl (HIN.out _ _)) rfl ⟨rfl, by rw [← HAE.out]; exact HWF.out⟩
end Go.Proofs.YtgjbelcnkmcbiaaDoor
