/-
  Walk: a stored block, in the program.
-/
import Derived.Test.YthbejefodelpkaaGreatZI7
namespace Go.Proofs.YthbejefodelpkaaGreat
open Go.RowKit

theorem byteOf_append (a b : List Bool) : byteOf (a ++ b) = byteOf a + 2 ^ a.length * byteOf b := by
  induction a with
  | nil => simp [byteOf]
  | cons x a ih =>
    simp only [List.cons_append, byteOf, ih, List.length_cons, Nat.pow_succ]
    rw [Nat.mul_add, ← Nat.add_assoc, ← Nat.mul_assoc, Nat.mul_comm 2 (2 ^ a.length)]
theorem byteOf_numBits (v n : Nat) (h : v < 2 ^ n) : byteOf (numBits v n) = v := by
  induction n generalizing v with
  | zero => simp [numBits, byteOf] at h ⊢; omega
  | succ n ih =>
    have e : numBits v (n + 1) = v.testBit 0 :: numBits (v / 2) n := by
      unfold numBits
      rw [List.range_succ_eq_map, List.map_cons, List.map_map]
      congr 1
      apply List.map_congr_left
      intro i _
      simp [Nat.testBit_succ]
    rw [e, byteOf, ih (v / 2) (by rw [Nat.pow_succ] at h; omega), Nat.testBit_zero]
    by_cases hb : v % 2 = 1
    · simp [hb]; omega
    · simp [hb]; omega
theorem unp_cons (c : UInt8) (l : List UInt8) : unp (c :: l) = numBits c.toNat 8 ++ unp l := rfl
theorem unp_drop (l : List UInt8) (k : Nat) : (unp l).drop (8 * k) = unp (l.drop k) := by
  induction k generalizing l with
  | zero => simp
  | succ k ih =>
    cases l with
    | nil => simp [unp]
    | cons c l =>
      rw [unp_cons, show 8 * (k + 1) = (numBits c.toNat 8).length + 8 * k from by rw [numBits_length]; omega, ← List.drop_drop, List.drop_left, ih]
      rfl
theorem unp_take (l : List UInt8) (k : Nat) : (unp l).take (8 * k) = unp (l.take k) := by
  induction k generalizing l with
  | zero => simp [unp]
  | succ k ih =>
    cases l with
    | nil => simp [unp]
    | cons c l =>
      rw [unp_cons, show 8 * (k + 1) = (numBits c.toNat 8).length + 8 * k from by rw [numBits_length]; omega, List.take_length_add_append, ih]
      rfl
theorem pack_unp (l : List UInt8) : pack (unp l) = l := by
  induction l with
  | nil => rw [show unp [] = [] from rfl, pack_nil]
  | cons c l ih =>
    rw [unp_cons, pack_of _ (by simp [numBits])]
    have h8 : (numBits c.toNat 8).length = 8 := numBits_length _ _
    rw [show (numBits c.toNat 8 ++ unp l).take 8 = numBits c.toNat 8 from List.take_left' h8, show (numBits c.toNat 8 ++ unp l).drop 8 = unp l from List.drop_left' h8, byteOf_numBits _ _ c.toNat_lt, ih]
    simp
theorem bitsAt_byte (s : ByteArray) (k : Nat) : bitsAt s (8 * k) = unp (s.data.toList.drop k) := unp_drop _ _
theorem four_bytes (s : ByteArray) (k : Nat) (h : k + 3 < s.size) :
    byteOf ((bitsAt s (8 * k)).take 32) = (s[k]).toNat + 256 * (s[k + 1]).toNat + 65536 * ((s[k + 2]).toNat + 256 * (s[k + 3]).toNat) := by
  have hd : ∀ j (hj : j < s.size), s.data.toList.drop j = s[j] :: s.data.toList.drop (j + 1) := fun j hj => by
    rw [List.drop_eq_getElem_cons (by simpa using hj)]; rfl
  rw [bitsAt_byte, show (32 : Nat) = 8 * 4 from rfl, unp_take, hd k (by omega), hd (k + 1) (by omega), hd (k + 2) (by omega), hd (k + 3) (by omega)]
  simp only [List.take_succ_cons, List.take_zero]
  rw [unp_cons, unp_cons, unp_cons, unp_cons]
  have e : unp [] = [] := rfl
  rw [e, List.append_nil]
  simp only [byteOf_append, numBits_length, byteOf_numBits _ _ (UInt8.toNat_lt _)]
  omega
theorem or_byte (a b : Nat) (ha : a < 256) (hb : b < 256) : bits .or .i64 (a : Int) ((b : Int) * 256) = ((a + 256 * b : Nat) : Int) := by
  have := or_add a 8 b (by simpa using ha) (by omega) (by omega)
  have e : ((b * 2 ^ 8 : Nat) : Int) = (b : Int) * 256 := by simp
  rw [e] at this
  rw [this]
  congr 1
  omega

/-- 'append(out, q...)', q a string, within a region that draws its order. -/
theorem step_app_strI {P : Program} {w : World} {ops : Array Oper} {o : Oper} {a : Act} {K : Act → World → Prop} {Q : Exit → Act → World → Prop} {E : Prop} {t u e : TypeId} (hE : Elem P t e (.int .u8 0) 1 1) (hu : P.underlying u = some .string) (hgd : o.guard = none) {s x : Operand}
    (ho : o.op = .call { callee := .builtin .append, args := #[s, x], argTypes := #[t, u] }) {base : Nat} {v : Value} {l : List UInt8} (hs : a.eval s = v) (hown : BRow w base e v l) {q : ByteArray}
    (hx : a.eval x = .string q) {n : Nat} (hn : n = l.length + q.size) (hlen : l.length + q.size ≤ 140737488355328) (hbase : base ≤ w.heap.size)
    (h : ∀ r cap w', BRow w' base e (.slice r n cap) (l ++ q.data.toList) → w.grownBy w' v.ownBlock → K (a.put o.dst (.slice r n cap)) w') :
    if Region.wanted o (yielded ops a.tmps) = true then Oper.wp P o a w K Q else E := by
  obtain ⟨ht, ⟨i, hi, hz, hsz, hby⟩, hzs, hp⟩ := hE
  have hw : Region.wanted o (yielded ops a.tmps) = true := by simp [Region.wanted, hgd]
  rw [if_pos hw]
  obtain ⟨v', w', hr, h2, h3, -⟩ := Lib.run_append_own_string (P := P) w base t u o.type e i ht hu hi hz hsz hby v l.length (bcells l) hown q (by unfold maxLen; omega) hlen hbase
  have hrow : BRow w' base e v' (l ++ q.data.toList) := brow_more h2 q.data.toList rfl (by simp)
  obtain ⟨r, cap, rfl⟩ := row_shape hrow
  have hl : (l ++ q.data.toList).length = n := by rw [hn]; simp
  rw [hl] at hrow hr
  unfold Oper.wp execOp
  simp only [ho, resolve, invoke, builtin, Sem.run_bind, Sem.run_pure, Result.andThen_ok, List.map_toArray, List.map_cons, List.map_nil, hs, hx, hr]
  exact h r cap w' hrow h3

set_option maxRecDepth 100000 in
set_option maxHeartbeats 8000000 in
theorem stored_any (s : ByteArray) (p most B zb : Nat) (out : List UInt8) (w : World) (hz : ZO w B zb s p most out) (hs : s.size ≤ 1000000000000000) (hp : p ≤ 8 * s.size) (hm : most ≤ 1048576) (ho : out.length ≤ most) :
    Calls Tryz.prog 155 #[.pointer (some ⟨zb, 0, none⟩)] w fun e w' => MatOk s most B zb (stoT most out (bitsAt s p)) e w' ∧ FZ B w w' := by
  obtain ⟨v, hzb, hrow, hB⟩ := hz
  obtain ⟨k, hk⟩ : ∃ k, k = (p + 7) / 8 := ⟨_, rfl⟩
  have hks : k ≤ s.size := by omega
  have hbd : (bitsAt s p).drop ((bitsAt s p).length % 8) = bitsAt s (8 * k) := by rw [bitsAt_drop, bitsAt_length]; congr 1; omega
  have hbl := bitsAt_length s (8 * k)
  have hst : stoT most out (bitsAt s p) = match numT (bitsAt s (8 * k)) 32 with
    | .error e => .error e
    | .ok (x, b1) =>
      if x % 65536 + x / 65536 ≠ 65535 then .error 4
      else if b1.length < 8 * (x % 65536) then .error 5
      else if most < out.length + x % 65536 then .error 3
      else .ok (out ++ pack (b1.take (8 * (x % 65536))), b1.drop (8 * (x % 65536))) := by unfold stoT; rw [hbd]; rfl
  clear hbd
  have k0 := hzb.cell 0
  have k1 := hzb.cell 1
  have k2 := hzb.cell 2
  have k3 := hzb.cell 3
  simp [zc] at k0 k1 k2 k3
  have z1 : ((p : Int) + 7) / 8 = (k : Int) := by omega
  have HK := Lib.hid hk
  clear hk
  by_cases h4 : s.size - k < 4
  · have HE : Hid (stoT most out (bitsAt s p) = .error 5) := by
      show _ = _
      rw [hst]
      unfold numT
      rw [if_pos (by omega)]
    have d1 : decide ((s.size : Int) - (k : Int) < 4) = true := by simp; omega
    clear hst hbl
    go_enter Tryz.func155, Tryz.ntmps155
    go_wp2_with fail
    go_ret
    refine ⟨?_, Fr.refl _ _ _⟩
    rw [HE.out]; rfl
  have d1 : decide ((s.size : Int) - (k : Int) < 4) = false := by simp; omega
  have h4b := four_bytes s k (by omega)
  have HST := Lib.hid hst
  clear hst
  obtain ⟨K1, hK1⟩ : ∃ K, K = k + 1 := ⟨_, rfl⟩
  obtain ⟨K2, hK2⟩ : ∃ K, K = k + 2 := ⟨_, rfl⟩
  obtain ⟨K3, hK3⟩ : ∃ K, K = k + 3 := ⟨_, rfl⟩
  have hk0 : (k : Int) < (s.size : Int) := by omega
  have hk1 : (K1 : Int) < (s.size : Int) := by omega
  have hk2 : (K2 : Int) < (s.size : Int) := by omega
  have hk3 : (K3 : Int) < (s.size : Int) := by omega
  have n0 : k < s.size := by omega
  have n1 : K1 < s.size := by omega
  have n2 : K2 < s.size := by omega
  have n3 : K3 < s.size := by omega
  have HB4 : Hid (byteOf ((bitsAt s (8 * k)).take 32) = (s[k]'n0).toNat + 256 * (s[K1]'n1).toNat + 65536 * ((s[K2]'n2).toNat + 256 * (s[K3]'n3).toNat)) := by
    subst hK1 hK2 hK3; exact h4b
  clear h4b
  have W1 : IntKind.i64.wrap ((k : Int) + 1) = (K1 : Int) := by rw [IntKind.wrap_i64]; omega
  have W2 : IntKind.i64.wrap ((k : Int) + 2) = (K2 : Int) := by rw [IntKind.wrap_i64]; omega
  have W3 : IntKind.i64.wrap ((k : Int) + 3) = (K3 : Int) := by rw [IntKind.wrap_i64]; omega
  have l0 := (s[k]'n0).toNat_lt
  have l1 := (s[K1]'n1).toNat_lt
  have l2 := (s[K2]'n2).toNat_lt
  have l3 := (s[K3]'n3).toNat_lt
  obtain ⟨N, hN⟩ : ∃ N, N = (s[k]'n0).toNat + 256 * (s[K1]'n1).toNat := ⟨_, rfl⟩
  obtain ⟨M, hM⟩ : ∃ N, N = (s[K2]'n2).toNat + 256 * (s[K3]'n3).toNat := ⟨_, rfl⟩
  have o1 := or_byte _ _ l0 l1
  have o2 := or_byte _ _ l2 l3
  rw [← hN] at o1
  rw [← hM] at o2
  have hN1 : N < 65536 := by omega
  have hM1 : M < 65536 := by omega
  have HS : Hid (stoT most out (bitsAt s p) = if N + M ≠ 65535 then .error 4 else if s.size - (k + 4) < N then .error 5 else if most < out.length + N then .error 3 else .ok (out ++ (s.data.toList.drop (k + 4)).take N, bitsAt s (8 * (k + 4 + N)))) := by
    show _ = _
    rw [HST.out]
    have hx : byteOf ((bitsAt s (8 * k)).take 32) = N + 65536 * M := by rw [HB4.out, hN, hM]
    unfold numT
    rw [if_neg (by omega), hx]
    simp only []
    have e1 : (N + 65536 * M) % 65536 = N := by omega
    have e2 : (N + 65536 * M) / 65536 = M := by omega
    rw [e1, e2, bitsAt_drop, show 8 * k + 32 = 8 * (k + 4) from by omega, bitsAt_drop, bitsAt_length, show 8 * (k + 4) + 8 * N = 8 * (k + 4 + N) from by omega, bitsAt_byte s (k + 4), unp_take, pack_unp]
    congr 1
    have : (8 * s.size - 8 * (k + 4) < 8 * N) = (s.size - (k + 4) < N) := by apply propext; omega
    simp only [this]
  have hK := Lib.hid (And.intro hK1 (And.intro hK2 hK3))
  clear hK1 hK2 hK3 HST hbl
  have HNM := Lib.hid (And.intro hN hM)
  clear hN hM HB4
  go_enter Tryz.func155, Tryz.ntmps155
  go_wp2_with fail
  simp only [z1]
  go_quiet (fail)
  revert nq; intro na
  go_wp2_with fail
  go_quiet (fail)
  revert nq; intro nb
  clear W1 W2 W3 o1 o2
  by_cases hNM : N + M ≠ 65535
  · have HE : Hid (stoT most out (bitsAt s p) = .error 4) := by show _ = _; rw [HS.out, if_pos hNM]
    have d2 : ((N : Int) + (M : Int) != 65535) = true := by simp; omega
    clear HS
    go_wp2_with fail
    go_ret
    refine ⟨?_, (Fr.refl _ _ _).drewN _⟩
    rw [HE.out]; rfl
  have d2 : ((N : Int) + (M : Int) != 65535) = false := by simp; omega
  obtain ⟨K4, hK4⟩ : ∃ K, K = k + 4 := ⟨_, rfl⟩
  by_cases hsh : s.size - (k + 4) < N
  · have HE : Hid (stoT most out (bitsAt s p) = .error 5) := by show _ = _; rw [HS.out, if_neg hNM, if_pos hsh]
    have d3 : decide ((s.size : Int) - ((k : Int) + 4) < (N : Int)) = true := by simp; omega
    clear HS
    go_wp2_with fail
    go_ret
    refine ⟨?_, (Fr.refl _ _ _).drewN _⟩
    rw [HE.out]; rfl
  have d3 : decide ((s.size : Int) - ((k : Int) + 4) < (N : Int)) = false := by simp; omega
  obtain ⟨x3, c3, rfl⟩ := row_shape hrow
  have w1 : IntKind.i64.wrap ((out.length : Int) + (N : Int)) = (out.length : Int) + (N : Int) := IntWalk.i64_in _ (by omega)
  by_cases hlim : most < out.length + N
  · have HE : Hid (stoT most out (bitsAt s p) = .error 3) := by show _ = _; rw [HS.out, if_neg hNM, if_neg hsh, if_pos hlim]
    have d4 : decide ((most : Int) < (out.length : Int) + (N : Int)) = true := by simp; omega
    clear HS
    go_wp2_with fail
    go_quiet (fail)
    clear w1
    go_wp2_with fail
    go_ret
    refine ⟨?_, ((Fr.refl _ _ _).drewN _).drewN _⟩
    rw [HE.out]; rfl
  have HE : Hid (stoT most out (bitsAt s p) = .ok (out ++ (s.data.toList.drop (k + 4)).take N, bitsAt s (8 * (k + 4 + N)))) := by show _ = _; rw [HS.out, if_neg hNM, if_neg hsh, if_neg hlim]
  have d4 : decide ((most : Int) < (out.length : Int) + (N : Int)) = false := by simp; omega
  clear HS
  go_wp2_with fail
  go_quiet (fail)
  clear w1
  go_wp2_with fail
  have k4e : (k : Int) + 4 = (K4 : Int) := by omega
  simp only [k4e]
  obtain ⟨K5, hK5⟩ : ∃ K, K = K4 + N := ⟨_, rfl⟩
  have hzq := fun n m => (hzb.drewN n).drewN m
  have hrq : ∀ n m, BRow ((w.drewN n).drewN m) B 5 (.slice x3 out.length c3) out := fun _ _ => hrow
  have hfq : ∀ n m, FZ B w ((w.drewN n).drewN m) := fun n m => ((Fr.refl _ _ _).drewN n).drewN m
  have hsq : ∀ n m, B ≤ ((w.drewN n).drewN m).heap.size := fun n m => Nat.le_of_lt (Nat.lt_of_le_of_lt hB hzb.lt)
  have hz4 := hzq (na + nb) nq
  have hr4 := hrq (na + nb) nq
  have hf4 := hfq (na + nb) nq
  have hs4 := hsq (na + nb) nq
  clear hzq hrq hfq hsq hzb hrow k0 k1 k2 k3 d2 d3 d4
  generalize (w.drewN (na + nb)).drewN nq = w4 at *
  have k0 := hz4.cell 0
  have k3 := hz4.cell 3
  simp [zc] at k0 k3
  have W5 : IntKind.i64.wrap ((K4 : Int) + (N : Int)) = (K5 : Int) := by rw [IntKind.wrap_i64]; omega
  have e1 : (0 : Int) ≤ (K4 : Int) := by omega
  have e2 : (K4 : Int) ≤ (K5 : Int) := by omega
  have e3 : (K5 : Int) ≤ (s.size : Int) := by omega
  have hq1 : (s.extract K4 K5).size = N := by rw [ByteArray.size_extract]; omega
  have hq2 : (s.extract K4 K5).data.toList = (s.data.toList.drop K4).take N := by
    rw [ByteArray.data_extract, Array.toList_extract, List.extract_eq_take_drop]
    congr 1
    omega
  have HQ := Lib.hid (And.intro hq1 hq2)
  have HZ4 : Hid (∀ w0 w5 : World, Blk w0 zb 141 (zc s p most (.slice x3 out.length c3)) → BRow w0 B 5 (.slice x3 out.length c3) out → w0.grownBy w5 (Value.slice x3 out.length c3).ownBlock → Blk w5 zb 141 (zc s p most (.slice x3 out.length c3))) := by
    intro w0 w5 hz0 hr0 hg
    refine (hg.block zb hz0.lt ?_).trans hz0
    rcases hr0.2 with ⟨hn, h0⟩ | ⟨g, cap, cur, hv, hgB, hgg, _⟩
    · rw [hn]; simp [Value.ownBlock]
    · rw [hv]
      simp [Value.ownBlock]
      rintro rfl
      exact absurd (Blk.uniq hz0 hgg).1 (by decide)
  have HK5 := Lib.hid (And.intro hK4 hK5)
  obtain ⟨L, hL⟩ : ∃ L, L = out.length + N := ⟨_, rfl⟩
  have HL : Hid (L = out.length + (s.extract K4 K5).size) := by show _ = _; rw [hq1, hL]
  clear hL
  have hNle : out.length + N ≤ 140737488355328 := by omega
  clear hq1 hq2 hK4 hK5 k4e
  go_region_law ((refine step_app_strI el_u8 Tryz.underlying9 (s := .tmp 86) (x := .tmp 95) rfl rfl (by first | (simp [Act.eval]; done) | rfl | (simp [Act.eval, Act.put]; done)) hr4 (q := s.extract K4 K5) (by first | (simp [Act.eval]; done) | rfl | (simp [Act.eval, Act.put]; done)) (n := L) HL.out (by rw [HQ.out.1]; exact hNle) hs4 ?_; intro r2 cap2 w5 ho5 hg5; have hz5 := HZ4.out _ w5 (by exact hz4) (by exact hr4) hg5; have k35 := hz5.cell 3; have f35 := hz5.frozen 3; simp [zc] at k35))
  all_goals
    have hfr5 : FZ B w w5 := (hf4.drew).grown (show BRow w4.drew B 5 _ _ from hr4) (Nat.le_refl _) (by decide) hg5
    have hz6 := hz5.put 3 (.slice r2 L cap2)
    have hf6 : Fr zb [141] w5 (w5.setCell ⟨zb, 3, none⟩ (.slice r2 L cap2)) := (Fr.refl _ _ _).put hz5 (Nat.le_refl _) (by simp) 3 _
    have hrow6 := hf6.owns ho5 (by decide)
    have hfr6 := hfr5.put hz5 hB (by simp) 3 (.slice r2 L cap2)
    generalize w5.setCell ⟨zb, 3, none⟩ (.slice r2 L cap2) = w6 at *
    have hz7 : Blk w6 zb 141 (zc s p most (.slice r2 L cap2)) := by simpa [zc] using hz6
    have k17 := hz7.cell 1
    have f17 := hz7.frozen 1
    simp [zc] at k17
    have hz8 := hz7.put 1 (.int .i64 ((8 * K5 : Nat) : Int))
    have hf8 : Fr zb [141] w6 (w6.setCell ⟨zb, 1, none⟩ (.int .i64 ((8 * K5 : Nat) : Int))) := (Fr.refl _ _ _).put hz7 (Nat.le_refl _) (by simp) 1 _
    have hrow8 := hf8.owns hrow6 (by decide)
    have hfr8 := hfr6.put hz7 hB (by simp) 1 (.int .i64 ((8 * K5 : Nat) : Int))
    have HZ8 := Lib.hid hz8
    have HR8 := Lib.hid hrow8
    have HF8 := Lib.hid hfr8
    clear hz8 hrow8 hfr8 hf8 hfr6 hrow6 hf6 hz6 hfr5 ho5 hg5 hz5 k35 f35 hz4 hr4 hf4 hs4 k0 k3
    go_wp2_with fail
    go_ret
    refine ⟨?_, HF8.out⟩
    rw [HE.out]
    refine ⟨rfl, 8 * K5, by omega, ?_, .slice r2 L cap2, ?_, ?_, hB⟩
    · have := HK5.out; rw [this.2, this.1]
    · have := HZ8.out; simpa [zc] using this
    · have h1 := HR8.out; rw [HQ.out.2, HK5.out.1] at h1; exact h1
end Go.Proofs.YthbejefodelpkaaGreat
