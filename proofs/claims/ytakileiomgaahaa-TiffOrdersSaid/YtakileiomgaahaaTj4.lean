/-
  The program of tiff: sizeRight, readHeader.
-/
import Derived.Test.YtakileiomgaahaaTj3
namespace Go.Proofs.Ytakileiomgaahaa
open Go.RowKit

/-- The values of all tags are of 32 bits at most. -/
def LBd (l : List Tg) : Prop := ∀ t ∈ l, ∀ x ∈ t.vals, x ≤ 4294967295
theorem vals_bd {l : List Tg} (h : LBd l) (id : Int) : ∀ x ∈ valsT l id, x ≤ 4294967295 := by
  unfold valsT findT
  intro x hx
  cases hf : l.find? (fun t => (t.id : Int) == id) with
  | none => rw [hf] at hx; cases hx
  | some t => rw [hf] at hx; exact h t (List.mem_of_find?_eq_some hf) x hx
theorem firstN_bd {l : List Tg} (h : LBd l) (id : Int) (o : Nat) (ho : o ≤ 4294967295) : firstN l id o ≤ 4294967295 := by
  unfold firstN
  cases hv : valsT l id with
  | nil => exact ho
  | cons a r => exact vals_bd h id a (by rw [hv]; simp)
/-- Are the sizes of the image and of its strips right. -/
def sizeP (l : List Tg) : Bool :=
  if firstN l 256 0 < 1 ∨ 256 < firstN l 256 0 ∨ firstN l 257 0 < 1 ∨ 256 < firstN l 257 0 then false
  else if firstN l 278 (firstN l 257 0) < 1 then false
  else decide ((valsT l 273).length = (firstN l 257 0 + firstN l 278 (firstN l 257 0) - 1) / firstN l 278 (firstN l 257 0)) && decide ((valsT l 279).length = (firstN l 257 0 + firstN l 278 (firstN l 257 0) - 1) / firstN l 278 (firstN l 257 0))
theorem tdiv_nat (a b : Nat) : (a : Int).tdiv (b : Int) = ((a / b : Nat) : Int) := (Int.ofNat_tdiv a b).symm
set_option maxHeartbeats 4000000 in
set_option maxRecDepth 100000 in
theorem tsize_any (v : Value) (l : List Tg) (w : World) (hr : TRow w v l) (hbd : LBd l) : Calls Try.prog 42 #[v] w fun e w' => e = .returned (.bool (sizeP l)) ∧ Below w.heap.size w w' := by
  have HW := Lib.hid (firstN_at hr 256 0)
  have HH := Lib.hid (firstN_at hr 257 0)
  have HR := Lib.hid (firstN_at hr 278 (firstN l 257 0))
  have HD := Lib.hid (find_at hr 273)
  have HE := Lib.hid (find_at hr 279)
  have bW := firstN_bd hbd 256 0 (by decide)
  have bH := firstN_bd hbd 257 0 (by decide)
  have bR := firstN_bd hbd 278 (firstN l 257 0) bH
  obtain ⟨x, cc, rfl, -⟩ := hr
  have hk : sizeP l = (if firstN l 256 0 < 1 ∨ 256 < firstN l 256 0 ∨ firstN l 257 0 < 1 ∨ 256 < firstN l 257 0 then false
    else if firstN l 278 (firstN l 257 0) < 1 then false
    else decide ((valsT l 273).length = (firstN l 257 0 + firstN l 278 (firstN l 257 0) - 1) / firstN l 278 (firstN l 257 0)) && decide ((valsT l 279).length = (firstN l 257 0 + firstN l 278 (firstN l 257 0) - 1) / firstN l 278 (firstN l 257 0))) := rfl
  unfold valsT at hk
  generalize sizeP l = res at *
  generalize firstN l 278 (firstN l 257 0) = r at *
  generalize firstN l 256 0 = W at *
  generalize firstN l 257 0 = H at *
  generalize (findT l 273).getD tag0 = t at *
  generalize (findT l 273).isSome = bs at *
  generalize (findT l 279).getD tag0 = t2 at *
  generalize (findT l 279).isSome = bs2 at *
  generalize hB : w.heap.size = B at *
  have HB := Lib.hid hB
  have HBW := Lib.hid (Below.refl B w)
  clear hB
  go_enter Try.func42, Try.ntmps42
  go_wp2_with fail
  refine (HW.out _ HBW.out).mono ?_
  rintro e w1 ⟨rfl, hb1⟩
  have HB1 := Lib.hid hb1
  clear hb1
  go_wp2_with fail
  refine (HH.out _ HB1.out).mono ?_
  rintro e w2 ⟨rfl, hb2⟩
  have HB2 := Lib.hid hb2
  clear hb2
  by_cases hc : W < 1 ∨ 256 < W ∨ H < 1 ∨ 256 < H
  · rw [if_pos hc] at hk
    have HK := Lib.hid hk
    clear hk
    by_cases h1 : W < 1
    · have e1 : decide ((W : Int) < 1) = true := by simp; omega
      go_wp2_with fail
      go_ret
      exact ⟨by rw [HK.out]; rfl, HB2.out⟩
    have e1 : decide ((W : Int) < 1) = false := by simp; omega
    by_cases h2 : 256 < W
    · have e2 : decide ((256 : Int) < (W : Int)) = true := by simp; omega
      go_wp2_with fail
      go_ret
      exact ⟨by rw [HK.out]; rfl, HB2.out⟩
    have e2 : decide ((256 : Int) < (W : Int)) = false := by simp; omega
    by_cases h3 : H < 1
    · have e3 : decide ((H : Int) < 1) = true := by simp; omega
      go_wp2_with fail
      go_ret
      exact ⟨by rw [HK.out]; rfl, HB2.out⟩
    have e3 : decide ((H : Int) < 1) = false := by simp; omega
    have e4 : decide ((256 : Int) < (H : Int)) = true := by simp; omega
    go_wp2_with fail
    go_ret
    exact ⟨by rw [HK.out]; rfl, HB2.out⟩
  rw [if_neg hc] at hk
  have HK := Lib.hid hk
  have e1 : decide ((W : Int) < 1) = false := by simp; omega
  have e2 : decide ((256 : Int) < (W : Int)) = false := by simp; omega
  have e3 : decide ((H : Int) < 1) = false := by simp; omega
  have e4 : decide ((256 : Int) < (H : Int)) = false := by simp; omega
  have hH : 1 ≤ H ∧ H ≤ 256 := by omega
  obtain ⟨hH1, hH2⟩ := hH
  clear hk hc
  go_wp2_with fail
  refine (HR.out _ HB2.out).mono ?_
  rintro e w3 ⟨rfl, hb3⟩
  have HB3 := Lib.hid hb3
  clear hb3 e1 e2 e3 e4
  by_cases hr0 : r < 1
  · have hk := HK.out
    rw [if_pos hr0] at hk
    have HK2 := Lib.hid hk
    have e5 : decide ((r : Int) < 1) = true := by simp; omega
    clear hk
    go_wp2_with fail
    go_ret
    exact ⟨by rw [HK2.out]; rfl, HB3.out⟩
  have hk := HK.out
  rw [if_neg hr0] at hk
  have e5 : decide ((r : Int) < 1) = false := by simp; omega
  obtain ⟨a, ha⟩ : ∃ a : Nat, H + r - 1 = a := ⟨_, rfl⟩
  rw [ha] at hk
  obtain ⟨n, hn⟩ : ∃ n : Nat, a / r = n := ⟨_, rfl⟩
  rw [hn] at hk
  have HK2 := Lib.hid hk
  have m1 : (H : Int) + (r : Int) - 1 = (a : Int) := by omega
  have m2 : (a : Int).tdiv (r : Int) = (n : Int) := by rw [tdiv_nat, hn]
  have m3 : ((r : Int) == 0) = false := by rw [beq_eq_false_iff_ne]; omega
  have m4 : ¬ (r : Int) = 0 := by omega
  have hnb : n ≤ 4294967551 := by rw [← hn]; exact Nat.le_trans (Nat.div_le_self _ _) (by omega)
  clear hk ha hn HK
  go_upto_region 7 with fail
  go_upto_region 8 with fail
  clear m1 m2 m3 m4 e5
  go_wp2_with fail
  refine (HD.out _ HB3.out).mono ?_
  rintro e w4 ⟨u, rfl, hu, hb4, -⟩
  obtain ⟨ux, uc, rfl⟩ := hu.shape
  obtain ⟨ti, ty, tv, tx⟩ := t
  simp only at HK2 
  obtain ⟨nt, hnt⟩ : ∃ nt, tv.length = nt := ⟨_, rfl⟩
  simp only at hu
  rw [hnt] at HK2
  unfold tcA
  simp only [hnt]
  clear hu HD hnt
  have hk := Blk.new w4 70 #[.int .i64 (ti : Int), .int .i64 (ty : Int), .slice ux nt uc, .string ⟨tx.toArray⟩]
  go_upto_region 9 with fail
  have HB5 : Hid (Below B w (w4.alloc (.cells #[.int .i64 (ti : Int), .int .i64 (ty : Int), .slice ux nt uc, .string ⟨tx.toArray⟩] 70))) := hb4.alloc (by rw [← HB.out]; exact hb4.size) _
  generalize w4.alloc (.cells #[.int .i64 (ti : Int), .int .i64 (ty : Int), .slice ux nt uc, .string ⟨tx.toArray⟩] 70) = wk at *
  have HQ2 : Hid (wk.cell? ⟨w4.heap.size, 2, none⟩ = some (.slice ux nt uc) ∧ w4.heap.size < wk.heap.size) := ⟨hk.cell 2, hk.lt⟩
  clear hk hb4
  generalize w4.heap.size = K at *
  go_wp2_with fail
  refine (HE.out _ HB5.out).mono ?_
  rintro e w6 ⟨u2, rfl, hu2, hb6, hb6'⟩
  obtain ⟨ux2, uc2, rfl⟩ := hu2.shape
  obtain ⟨ti2, ty2, tv2, tx2⟩ := t2
  simp only at HK2
  obtain ⟨nt2, hnt2⟩ : ∃ nt2, tv2.length = nt2 := ⟨_, rfl⟩
  simp only at hu2
  rw [hnt2] at HK2
  unfold tcA
  simp only [hnt2]
  have HQ3 : Hid (w6.cell? ⟨K, 2, none⟩ = some (.slice ux nt uc) ∧ K < w6.heap.size) := ⟨(hb6'.cell (p := ⟨K, 2, none⟩) HQ2.out.2).trans HQ2.out.1, Nat.lt_of_lt_of_le HQ2.out.2 hb6'.size⟩
  clear hu2 HE hnt2 hb6' HQ2
  have hk := Blk.new w6 70 #[.int .i64 (ti2 : Int), .int .i64 (ty2 : Int), .slice ux2 nt2 uc2, .string ⟨tx2.toArray⟩]
  go_upto_region 10 with fail
  have HB7 : Hid (Below B w (w6.alloc (.cells #[.int .i64 (ti2 : Int), .int .i64 (ty2 : Int), .slice ux2 nt2 uc2, .string ⟨tx2.toArray⟩] 70))) := hb6.alloc (by rw [← HB.out]; exact hb6.size) _
  have q1 : (w6.alloc (.cells #[.int .i64 (ti2 : Int), .int .i64 (ty2 : Int), .slice ux2 nt2 uc2, .string ⟨tx2.toArray⟩] 70)).cell? ⟨K, 2, none⟩ = some (.slice ux nt uc) := (((Below.refl w6.heap.size w6).alloc (Nat.le_refl _) _).cell (p := ⟨K, 2, none⟩) HQ3.out.2).trans HQ3.out.1
  generalize w6.alloc (.cells #[.int .i64 (ti2 : Int), .int .i64 (ty2 : Int), .slice ux2 nt2 uc2, .string ⟨tx2.toArray⟩] 70) = wj at *
  have q2 : wj.cell? ⟨w6.heap.size, 2, none⟩ = some (.slice ux2 nt2 uc2) := hk.cell 2
  clear hk hb6 HQ3
  generalize w6.heap.size = K2 at *
  by_cases h1 : nt = n
  · have e1 : ((nt : Int) == (n : Int)) = true := by rw [h1]; simp
    have HK3 : Hid (res = ((nt2 : Int) == (n : Int))) := by
      show _ = _
      rw [HK2.out, decide_eq_true h1, Bool.true_and]
      by_cases h : nt2 = n
      · rw [decide_eq_true h, h]; simp
      · rw [decide_eq_false h, beq_false_of_ne (by omega)]
    clear h1
    go_wp2_with fail
    go_ret
    exact ⟨by rw [HK3.out]; rfl, HB7.out⟩
  · have e1 : ((nt : Int) == (n : Int)) = false := by rw [beq_eq_false_iff_ne]; omega
    have HK3 : Hid (res = false) := by
      show _ = _
      rw [HK2.out, decide_eq_false h1, Bool.false_and]
    clear h1
    go_wp2_with fail
    go_ret
    exact ⟨by rw [HK3.out]; rfl, HB7.out⟩

/-- What the tags say. -/
structure Hd where
  w : Nat
  h : Nat
  bytes : Nat
  samples : Nat
  photo : Nat
  alpha : Nat
  rows : Nat
  packed : Bool
  big : Bool
def hdA (H : Hd) : Array Value := #[.int .i64 H.w, .int .i64 H.h, .int .i64 H.bytes, .int .i64 H.samples, .int .i64 H.photo, .int .i64 H.alpha, .int .i64 H.rows, .bool H.packed, .bool H.big]
def hd0 : Hd := ⟨0, 0, 0, 0, 0, 0, 0, false, false⟩
theorem hdA_inf (H : Hd) : (Try.prog.info? 81).map (·.size) = some (hdA H).size := by show _ = some 9; kernel_rfl
theorem hdA_one (H : Hd) : (hdA H).all (·.oneCell') = true := by simp [hdA, Value.oneCell']
def hdT (l : List Tg) (big : Bool) : Hd := ⟨firstN l 256 0, firstN l 257 0, firstN l 258 0 / 8, firstN l 277 0, firstN l 262 0, firstN l 338 0, firstN l 278 (firstN l 257 0), firstN l 259 1 == 32773, big⟩
set_option maxHeartbeats 4000000 in
set_option maxRecDepth 100000 in
theorem thead_any (v : Value) (l : List Tg) (w : World) (hr : TRow w v l) (hbd : LBd l) : Calls Try.prog 43 #[v] w fun e w' => e = .returned (.agg (hdA (hdT l false))) ∧ Below w.heap.size w w' := by
  have HIN : Hid (∀ (id : Int) (o : Nat) wx, Below w.heap.size w wx → Calls Try.prog 75 #[v, .int .i64 id, .int .i64 (o : Int)] wx fun e w' => e = .returned (.int .i64 (firstN l id o : Nat)) ∧ Below wx.heap.size wx w') := fun id o wx hb => by
    have := tfirst_any v l id (o : Int) wx (hr.below hb)
    rwa [firstT_nat] at this
  have HW := Lib.hid (HIN.out 256 0)
  have HH := Lib.hid (HIN.out 257 0)
  have HX := Lib.hid (HIN.out 258 0)
  have HS := Lib.hid (HIN.out 277 0)
  have HP := Lib.hid (HIN.out 262 0)
  have HA := Lib.hid (HIN.out 338 0)
  have HC := Lib.hid (HIN.out 259 1)
  have HR := Lib.hid (HIN.out 278 (firstN l 257 0))
  clear HIN
  have bX := firstN_bd hbd 258 0 (by decide)
  obtain ⟨x, cc, rfl, -⟩ := hr
  have hk : hdT l false = ⟨firstN l 256 0, firstN l 257 0, firstN l 258 0 / 8, firstN l 277 0, firstN l 262 0, firstN l 338 0, firstN l 278 (firstN l 257 0), firstN l 259 1 == 32773, false⟩ := rfl
  generalize hdT l false = res at *
  generalize firstN l 278 (firstN l 257 0) = r at *
  generalize firstN l 256 0 = W at *
  generalize firstN l 257 0 = H at *
  generalize firstN l 258 0 = X at *
  generalize firstN l 277 0 = S at *
  generalize firstN l 262 0 = P at *
  generalize firstN l 338 0 = A at *
  generalize firstN l 259 1 = C at *
  obtain ⟨Y, hY⟩ : ∃ Y, X / 8 = Y := ⟨_, rfl⟩
  rw [hY] at hk
  obtain ⟨bc, hbc⟩ : ∃ b, ((C : Int) == 32773) = b := ⟨_, rfl⟩
  have hbc2 : (C == 32773) = bc := by
    rw [← hbc]
    by_cases h : C = 32773
    · rw [h]; rfl
    · rw [beq_false_of_ne h, beq_false_of_ne (by omega)]
  rw [hbc2] at hk
  have HK := Lib.hid hk
  have m1 : (X : Int).tdiv 8 = (Y : Int) := by rw [← hY]; exact tdiv_nat X 8
  have m2 : Y ≤ 4294967295 := by rw [← hY]; exact Nat.le_trans (Nat.div_le_self _ _) bX
  clear hk hbc2 hY hbd
  have h0 := Blk.new w 81 (hdA hd0)
  have hb := (Below.refl w.heap.size w).alloc (Nat.le_refl _) (.cells (hdA hd0) 81)
  have e0 : w.alloc (.cells #[.int .i64 0, .int .i64 0, .int .i64 0, .int .i64 0, .int .i64 0, .int .i64 0, .int .i64 0, .bool false, .bool false] 81) = w.alloc (.cells (hdA hd0) 81) := rfl
  go_enter Try.func43, Try.ntmps43
  go_upto_region 1 with fail
  generalize w.alloc (.cells (hdA hd0) 81) = wz at *
  clear e0
  have hlt0 := h0.lt
  generalize hB : w.heap.size = B at *
  have HB := Lib.hid hB
  have HBZ := Lib.hid hb
  have H0 := Lib.hid h0
  clear hB hb h0
  have HST : Hid (∀ wx w', (Below B w wx ∧ Blk wx B 81 (hdA hd0)) → Below wx.heap.size wx w' → (Below B w w' ∧ Blk w' B 81 (hdA hd0))) := fun wx w' h hb => ⟨h.1.trans (hb.mono (Nat.le_of_lt h.2.lt)), (hb.block _ h.2.lt).trans h.2⟩
  have HJ0 : Hid (Below B w wz ∧ Blk wz B 81 (hdA hd0)) := ⟨HBZ.out, H0.out⟩
  clear HBZ H0
  go_wp2_with fail
  refine (HW.out _ HJ0.out.1).mono ?_
  rintro e w1 ⟨rfl, hb⟩
  have HJ1 := Lib.hid (HST.out _ _ HJ0.out hb)
  clear hb
  go_wp2_with fail
  refine (HH.out _ HJ1.out.1).mono ?_
  rintro e w2 ⟨rfl, hb⟩
  have HJ2 := Lib.hid (HST.out _ _ HJ1.out hb)
  clear hb
  go_wp2_with fail
  refine (HX.out _ HJ2.out.1).mono ?_
  rintro e w3 ⟨rfl, hb⟩
  have HJ3 := Lib.hid (HST.out _ _ HJ2.out hb)
  clear hb
  go_wp2_with fail
  refine (HS.out _ HJ3.out.1).mono ?_
  rintro e w4 ⟨rfl, hb⟩
  have HJ4 := Lib.hid (HST.out _ _ HJ3.out hb)
  clear hb
  go_wp2_with fail
  refine (HP.out _ HJ4.out.1).mono ?_
  rintro e w5 ⟨rfl, hb⟩
  have HJ5 := Lib.hid (HST.out _ _ HJ4.out hb)
  clear hb
  go_wp2_with fail
  refine (HA.out _ HJ5.out.1).mono ?_
  rintro e w6 ⟨rfl, hb⟩
  have HJ6 := Lib.hid (HST.out _ _ HJ5.out hb)
  clear hb
  go_wp2_with fail
  refine (HC.out _ HJ6.out.1).mono ?_
  rintro e w7 ⟨rfl, hb⟩
  have HJ7 := Lib.hid (HST.out _ _ HJ6.out hb)
  clear hb
  have hk := Blk.new w7 81 #[.int .i64 (W : Int), .int .i64 (H : Int), .int .i64 (Y : Int), .int .i64 (S : Int), .int .i64 (P : Int), .int .i64 (A : Int), .int .i64 0, .bool bc, .bool false]
  have HJ8 : Hid ((Below B w (w7.alloc (.cells #[.int .i64 (W : Int), .int .i64 (H : Int), .int .i64 (Y : Int), .int .i64 (S : Int), .int .i64 (P : Int), .int .i64 (A : Int), .int .i64 0, .bool bc, .bool false] 81)) ∧ Blk (w7.alloc (.cells #[.int .i64 (W : Int), .int .i64 (H : Int), .int .i64 (Y : Int), .int .i64 (S : Int), .int .i64 (P : Int), .int .i64 (A : Int), .int .i64 0, .bool bc, .bool false] 81)) B 81 (hdA hd0)) ∧ B < w7.heap.size) := ⟨HST.out _ _ HJ7.out ((Below.refl _ _).alloc (Nat.le_refl _) _), HJ7.out.2.lt⟩
  go_upto_region 2 with fail
  generalize w7.alloc (.cells #[.int .i64 (W : Int), .int .i64 (H : Int), .int .i64 (Y : Int), .int .i64 (S : Int), .int .i64 (P : Int), .int .i64 (A : Int), .int .i64 0, .bool bc, .bool false] 81) = wk at *
  change Blk wk w7.heap.size 81 (hdA ⟨W, H, Y, S, P, A, 0, bc, false⟩) at hk
  have y1 : wk.cell? ⟨w7.heap.size, 1, none⟩ = some (.int .i64 (H : Int)) := hk.cell 1
  have HKK := Lib.hid hk
  clear hk
  have HKB : Hid (B < w7.heap.size) := HJ8.out.2
  generalize w7.heap.size = K at *
  go_wp2_with fail
  refine (HR.out _ HJ8.out.1.1).mono ?_
  rintro e w9 ⟨rfl, hb⟩
  have HJ9 := Lib.hid (HST.out _ _ HJ8.out.1 hb)
  have hk9 : Blk w9 K 81 (hdA ⟨W, H, Y, S, P, A, 0, bc, false⟩) := (hb.block _ HKK.out.lt).trans HKK.out
  clear hb y1 HKK
  have y6 : w9.cell? ⟨K, 6, none⟩ = some (.int .i64 0) := hk9.cell 6
  have z6 := hk9.frozen 6
  have HK10 : Hid (Blk (w9.setCell ⟨K, 6, none⟩ (.int .i64 (r : Int))) K 81 (hdA ⟨W, H, Y, S, P, A, r, bc, false⟩)) := hk9.put 6 (.int .i64 (r : Int))
  have HJ10 : Hid (Below B w (w9.setCell ⟨K, 6, none⟩ (.int .i64 (r : Int))) ∧ Blk (w9.setCell ⟨K, 6, none⟩ (.int .i64 (r : Int))) B 81 (hdA hd0)) := ⟨below_put HJ9.out.1 (p := ⟨K, 6, none⟩) (Nat.le_of_lt HKB.out) _, HJ9.out.2.other (p := ⟨K, 6, none⟩) (by have := HKB.out; simp; omega) _⟩
  clear hk9
  go_upto_region 3 with fail
  generalize w9.setCell ⟨K, 6, none⟩ (.int .i64 (r : Int)) = wq at *
  clear y6 z6
  rw [← HK.out] at HK10
  obtain ⟨T, hT⟩ : ∃ T, hdA res = T := ⟨_, rfl⟩
  rw [hT] at HK10
  have HTI : Hid ((Try.prog.info? 81).map (·.size) = some T.size) := by show _ = _; rw [← hT]; exact hdA_inf _
  have HT1 : Hid (T.all (·.oneCell') = true) := by show _ = _; rw [← hT]; exact hdA_one _
  have HTS : Hid ((hdA hd0).size = T.size) := by show _ = _; rw [← hT]; rfl
  have HT := Lib.hid hT
  clear hT
  go_wp2_with (first | refine wpList_load_row rfl 81 (.tmp 3) rfl K (by rfl) 81 T (0, 0) _ (by exact HK10.out) Try.underlying81 rfl (by exact HTI.out) ?_ | refine wpList_store_rowTo rfl 81 (.tmp 2) (.tmp 26) rfl rfl B T (by rfl) (by rfl) 81 _ (by exact HJ10.out.2) (by exact HTI.out) (by exact HTS.out) (by exact HT1.out) ?_)
  exact bodyPost_ret (v := .agg T) (results_cell_row rfl _ _ B 81 T (0, 0) _ rfl (HJ10.out.2.rset _) Try.underlying81 rfl HTI.out) rfl ⟨by rw [HT.out], by rw [HB.out]; exact below_rset HJ10.out.1 (Nat.le_refl _) _⟩
end Go.Proofs.Ytakileiomgaahaa
