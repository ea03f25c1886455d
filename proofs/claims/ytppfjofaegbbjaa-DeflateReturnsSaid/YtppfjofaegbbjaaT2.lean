/-
  Walks: writing one bit, in the program and in the reference.
-/
import Derived.Test.YtppfjofaegbbjaaProg
import Derived.Test.YtppfjofaegbbjaaLib
import Derived.Test.YtppfjofaegbbjaaBits
import Derived.StillTailTactics
import Derived.Deep.DeepCutAuto
import Derived.Test.YtppfjofaegbbjaaT1
namespace Go.Proofs.Ytppfjofaegbbjaa
open Go.RowKit

/-- Behind the pointer ⟨g, 0⟩ lies a struct of type T: the bytes and the number of the bits that were written. -/
def Wr (T : TypeId) (w : World) (B g : Nat) (bs : List Bool) : Prop :=
  ∃ v, Blk w g T #[v, .int .i64 bs.length] ∧ BRow w B 5 v (pack bs) ∧ B ≤ g

theorem and_one (b : Int) : bits .and .i64 b 1 = b % 2 := by
  show IntKind.i64.wrap ((BitVec.ofInt 64 b &&& BitVec.ofInt 64 1).toNat : Int) = _
  have h1 : (BitVec.ofInt 64 1) = 1#64 := by decide
  rw [h1, BitVec.toNat_and]
  have : (BitVec.ofInt 64 b).toNat % 2 = (b % 2).toNat := by
    rw [BitVec.toNat_ofInt]; omega
  simp only [BitVec.toNat_ofNat, Nat.reducePow, Nat.reduceMod, Nat.and_one_is_mod, this, IntKind.wrap_i64]
  omega
theorem or_new (last m : Nat) (c : Bool) (hm : m < 8) (h : last < 2 ^ m) : bits .or .u8 (last : Int) (IntKind.u8.wrap ((c.toNat : Int) * 2 ^ m)) = ((last + c.toNat * 2 ^ m : Nat) : Int) := by
  have key : ∀ m : Fin 8, ∀ c : Bool, ∀ last : Fin 128, last.val < 2 ^ m.val → bits .or .u8 (last.val : Int) (IntKind.u8.wrap ((c.toNat : Int) * 2 ^ m.val)) = ((last.val + c.toNat * 2 ^ m.val : Nat) : Int) := by decide +kernel
  have : last < 128 := Nat.lt_of_lt_of_le h (by have : 2 ^ m ≤ 2 ^ 7 := Nat.pow_le_pow_right (by omega) (by omega); simpa using this)
  exact key ⟨m, hm⟩ c ⟨last, this⟩ h

theorem add_new (last m : Nat) (hm : m < 8) (h : last < 2 ^ m) : IntKind.u8.wrap ((last : Int) + IntKind.u8.wrap (2 ^ m)) = (last : Int) + ((2 ^ m : Nat) : Int) := by
  have : 2 ^ m ≤ 2 ^ 7 := Nat.pow_le_pow_right (by omega) (by omega)
  have e : (2 : Int) ^ m = ((2 ^ m : Nat) : Int) := by simp
  rw [e, IntKind.wrap_u8, IntKind.wrap_u8]
  omega
theorem or_lt (last m : Nat) (c : Bool) (hm : m < 8) (h : last < 2 ^ m) : last + c.toNat * 2 ^ m < 256 := by
  have : 2 ^ m ≤ 2 ^ 7 := Nat.pow_le_pow_right (by omega) (by omega)
  cases c <;> simp <;> omega

/-- Behind the test of 'bit': there is a last byte into which the bit goes. -/
def WrMid (T : TypeId) (w : World) (B g : Nat) (bs : List Bool) (c : Bool) (w0 : World) : Prop :=
  ∃ (k : Nat) (init : List UInt8) (last : UInt8) (r cap : Nat), k = init.length ∧ Blk w g T #[.slice (some ⟨r, 0, none⟩) (k + 1) cap, .int .i64 bs.length] ∧
    w.ownsRow B 5 1 (.slice (some ⟨r, 0, none⟩) (k + 1) cap) (k + 1) (bcells (init ++ [last])) ∧ last.toNat < 2 ^ (bs.length % 8) ∧
    pack (bs ++ [c]) = init ++ [UInt8.ofNat (last.toNat + c.toNat * 2 ^ (bs.length % 8))] ∧ k < 1000000000 ∧ Fr B [T, 5] w0 w

theorem wrMid_old {T : TypeId} {w : World} {B g : Nat} {bs : List Bool} {c : Bool} {v : Value} (hblk : Blk w g T #[v, .int .i64 bs.length]) (hrow : BRow w B 5 v (pack bs)) (h8 : bs.length % 8 ≠ 0) (hlen : bs.length < 1000000000) : WrMid T w B g bs c w := by
  obtain ⟨init, last, hp, hlt, hnew⟩ := pack_snoc_old bs c h8
  unfold BRow at hrow
  rw [hp] at hrow
  have hk1 : (init ++ [last]).length = init.length + 1 := by simp
  rw [hk1] at hrow
  obtain ⟨r, cap, rfl, hBr, hrl⟩ := hrow.form (by simp)
  refine ⟨init.length, init, last, r, cap, rfl, hblk, hrow, hlt, hnew, ?_, Fr.refl _ _ _⟩
  have := pack_length bs; rw [hp] at this; simp at this; omega

theorem wrMid_new {T : TypeId} {w w0 : World} {B g : Nat} {bs : List Bool} {c : Bool} {v : Value} (hblk : Blk w g T #[v, .int .i64 bs.length]) (hrow : w.ownsRow B 5 1 v ((pack bs).length + 1) (bcells (pack bs) ++ [.int .u8 0])) (h8 : bs.length % 8 = 0) (hlen : bs.length < 1000000000)
    (hf : Fr B [T, 5] w0 w) : WrMid T w B g bs c w0 := by
  have hrow' : w.ownsRow B 5 1 v ((pack bs).length + 1) (bcells (pack bs ++ [0])) := by rw [bcells_append]; exact hrow
  obtain ⟨r, cap, rfl, hBr, hrl⟩ := hrow.form (by simp)
  refine ⟨(pack bs).length, pack bs, 0, r, cap, rfl, hblk, hrow', by simp [Nat.two_pow_pos], ?_, ?_, hf⟩
  · rw [pack_snoc_new bs c h8, h8]; simp
  · rw [pack_length]; omega

set_option maxHeartbeats 1000000 in
theorem bit_any (w : World) (B g : Nat) (bs : List Bool) (b : Int) (c : Bool) (hb : b % 2 = c.toNat) (h : Wr 46 w B g bs) (hlen : bs.length < 1000000000) :
    Calls Try.prog 42 #[.pointer (some ⟨g, 0, none⟩), .int .i64 b] w fun e w' => e = .returned (.tuple #[]) ∧ Wr 46 w' B g (bs ++ [c]) ∧ Fr B [46, 5] w w' := by
  obtain ⟨v, hblk, hrow, hB⟩ := h
  have hc0 := hblk.cell 0
  have hc1 := hblk.cell 1
  have hf0 := hblk.frozen 0
  have hsz := hblk.lt
  simp at hc0 hc1
  go_enter Try.func42, Try.ntmps42
  go_upto_if 9 with (fail)
  go_cut [] (fun wx => WrMid 46 wx B g bs c w)
  case first =>
    by_cases h8 : bs.length % 8 = 0
    · have h8' : ((bs.length : Int) % 8 == 0) = true := by simp; omega
      go_wp2_with (at_builtin; refine wpList_app del_u8 hrow (by omega) rfl rfl rfl (m := 0) rfl (by simp [Value.oneCell']) rfl ?hb ?hl ?_)
      case hb => rw [pack_length]; omega
      case hl => rw [pack_length]; unfold maxLen; omega
      intro r1 cap1 w1 ho1 hg1 _
      have hf1 := ((Fr.refl B [46, 5] w).alloc (.cells #[.int .u8 0] 5)).grown (hrow.alloc _) (Nat.le_refl _) (by simp) hg1
      have hblk1 := hblk.alloc (.cells #[.int .u8 0] 5)
      have hblk2 : Blk w1 g 46 #[v, .int .i64 bs.length] := (hg1.block g hblk1.lt (own_blk_ne' hblk (hrow.2) (by decide))).trans hblk1
      have hc01 := hblk2.cell 0
      have hf01 := hblk2.frozen 0
      simp at hc01
      clear hg1 hblk1 hblk hrow hc0 hc1 hf0
      have hblk3 := hblk2.put 0 (.slice (some ⟨r1, 0, none⟩) ((pack bs).length + 1) cap1)
      have ho3 := ((Fr.refl B [46] w1).put hblk2 hB (by simp) 0 (.slice (some ⟨r1, 0, none⟩) ((pack bs).length + 1) cap1)).owns ho1 (by simp)
      have hf3 := hf1.put hblk2 hB (by simp) 0 (.slice (some ⟨r1, 0, none⟩) ((pack bs).length + 1) cap1)
      simp at hblk3
      have HB := Lib.hid hblk3
      have HO := Lib.hid ho3
      have HF := Lib.hid hf3
      clear hblk3 ho3 hf3 ho1 hf1 hblk2
      go_wp2
      go_meet
      exact wrMid_new HB.out HO.out h8 hlen HF.out
    · have h8' : ((bs.length : Int) % 8 == 0) = false := by simp; omega
      go_wp2
      go_meet
      exact wrMid_old hblk hrow h8 hlen
  case rest =>
    obtain ⟨k, init, last, r, cap, hk, hblk, hrow, hlt, hnew, hkl, hfr0⟩ := hcut
    have hcr : wc.cell? ⟨r, k, none⟩ = some (.int .u8 (last.toNat : Int)) := by
      have := hrow.cells (g := r) rfl k _ (bcells_get (init ++ [last]) k (by simp [hk]))
      rw [Addr.add_lit] at this
      simpa [hk] using this
    have hfr : wc.frozen? ⟨r, k, none⟩ = false := hrow.frozenAt k
    have hc0 := hblk.cell 0
    have hc1 := hblk.cell 1
    simp at hc0 hc1
    have HN := Lib.hid hnew
    have HK := Lib.hid hk
    clear hnew hk
    have hw1 : IntKind.i64.wrap (k : Int) = (k : Int) := IntWalk.i64_in _ (by omega)
    have hk2 : (k : Int) < (k : Int) + 1 := by omega
    obtain ⟨m, hm⟩ : ∃ m, m = bs.length % 8 := ⟨_, rfl⟩
    have hm1 : (bs.length : Int).tmod 8 = (m : Int) := by rw [Int.tmod_eq_emod_of_nonneg (by omega)]; omega
    have hmin : min m 8 = m := by omega
    have hx : IntKind.u8.wrap (bits .and .i64 b 1) = (c.toNat : Int) := by rw [and_one, hb]; cases c <;> rfl
    have hor := or_new last.toNat m c (by omega) (by rw [hm]; exact hlt)
    have HM := Lib.hid hm
    clear hm
    go_wp2
    go_still_tail 23, (by kernel_rfl)
    clear hw1 hm1 hmin hx
    have HOR := Lib.hid hor
    clear hor
    change wpList _ _ _ _ _ wc.drew
    refine wpList_plain rfl fun K hK => ?_
    go_simp
    refine hK _ _ ?_
    clear hK K
    have hne : g ≠ r := own_ne hblk hrow (by decide)
    have hblk1 := (hblk.other (p := ⟨r, k, none⟩) hne (.int .u8 (↑last.toNat + ↑c.toNat * 2 ^ m))).drew
    have hrow1 := (hrow.stored k (.int .u8 (↑last.toNat + ↑c.toNat * 2 ^ m))).1.drew
    have hfr1 := (hfr0.grown hrow (Nat.le_refl _) (by simp) (hrow.stored k (.int .u8 (↑last.toNat + ↑c.toNat * 2 ^ m))).2).drew
    clear hblk hrow hc0 hc1 hcr hfr
    generalize (wc.setCell { block := r, off := k } (Value.int IntKind.u8 (↑last.toNat + ↑c.toNat * 2 ^ m))).drew = w1 at *
    have hc1 := hblk1.cell 1
    have hf1 := hblk1.frozen 1
    simp at hc1
    go_wp2
    go_end0
    refine ⟨rfl, ⟨.slice (some ⟨r, 0, none⟩) (k + 1) cap, ?_, ?_, hB⟩, hfr1.put hblk1 hB (by simp) 1 _⟩
    · simpa using hblk1.put 1 (.int .i64 (bs.length + 1))
    · have h := ((Fr.refl B [46] w1).put hblk1 hB (by simp) 1 (.int .i64 (bs.length + 1))).owns hrow1 (by simp)
      unfold BRow
      rw [HN.out, ← HM.out]
      have e : (bcells (init ++ [last])).set k (Value.int IntKind.u8 (↑last.toNat + ↑c.toNat * 2 ^ m)) = bcells (init ++ [UInt8.ofNat (last.toNat + c.toNat * 2 ^ m)]) := by
        rw [HK.out, bcells_append, bcells_append, List.set_append_right _ _ (by simp [bcells])]
        simp [bcells]
        have h1 := or_lt last.toNat m c (by have := HM.out; omega) (by rw [HM.out]; exact hlt)
        have h2 : (c.toNat : Int) * 2 ^ m = ((c.toNat * 2 ^ m : Nat) : Int) := by simp
        rw [h2]
        omega
      rw [e] at h
      have e2 : (init ++ [UInt8.ofNat (last.toNat + c.toNat * 2 ^ m)]).length = k + 1 := by simp [HK.out]
      rw [e2]
      exact h
set_option maxHeartbeats 1000000 in
theorem rbit_any (w : World) (B g : Nat) (bs : List Bool) (c : Bool) (h : Wr 54 w B g bs) (hlen : bs.length < 1000000000) :
    Calls Try.prog 47 #[.pointer (some ⟨g, 0, none⟩), .int .i64 (c.toNat : Int)] w fun e w' => e = .returned (.tuple #[]) ∧ Wr 54 w' B g (bs ++ [c]) ∧ Fr B [54, 5] w w' := by
  obtain ⟨v, hblk, hrow, hB⟩ := h
  have hc0 := hblk.cell 0
  have hc1 := hblk.cell 1
  have hf0 := hblk.frozen 0
  have hsz := hblk.lt
  simp at hc0 hc1
  go_enter Try.func47, Try.ntmps47
  go_upto_if 9 with (fail)
  go_cut [] (fun wx => WrMid 54 wx B g bs c w)
  case first =>
    by_cases h8 : bs.length % 8 = 0
    · have h8' : ((bs.length : Int) % 8 == 0) = true := by simp; omega
      go_wp2_with (at_builtin; refine wpList_app del_u8 hrow (by omega) rfl rfl rfl (m := 0) rfl (by simp [Value.oneCell']) rfl ?hb ?hl ?_)
      case hb => rw [pack_length]; omega
      case hl => rw [pack_length]; unfold maxLen; omega
      intro r1 cap1 w1 ho1 hg1 _
      have hf1 := ((Fr.refl B [54, 5] w).alloc (.cells #[.int .u8 0] 5)).grown (hrow.alloc _) (Nat.le_refl _) (by simp) hg1
      have hblk1 := hblk.alloc (.cells #[.int .u8 0] 5)
      have hblk2 : Blk w1 g 54 #[v, .int .i64 bs.length] := (hg1.block g hblk1.lt (own_blk_ne' hblk (hrow.2) (by decide))).trans hblk1
      have hc01 := hblk2.cell 0
      have hf01 := hblk2.frozen 0
      simp at hc01
      clear hg1 hblk1 hblk hrow hc0 hc1 hf0
      have hblk3 := hblk2.put 0 (.slice (some ⟨r1, 0, none⟩) ((pack bs).length + 1) cap1)
      have ho3 := ((Fr.refl B [54] w1).put hblk2 hB (by simp) 0 (.slice (some ⟨r1, 0, none⟩) ((pack bs).length + 1) cap1)).owns ho1 (by simp)
      have hf3 := hf1.put hblk2 hB (by simp) 0 (.slice (some ⟨r1, 0, none⟩) ((pack bs).length + 1) cap1)
      simp at hblk3
      have HB := Lib.hid hblk3
      have HO := Lib.hid ho3
      have HF := Lib.hid hf3
      clear hblk3 ho3 hf3 ho1 hf1 hblk2
      go_wp2
      go_meet
      exact wrMid_new HB.out HO.out h8 hlen HF.out
    · have h8' : ((bs.length : Int) % 8 == 0) = false := by simp; omega
      go_wp2
      go_meet
      exact wrMid_old hblk hrow h8 hlen
  case rest =>
    obtain ⟨k, init, last, r, cap, hk, hblk, hrow, hlt, hnew, hkl, hfr0⟩ := hcut
    have hcr : wc.cell? ⟨r, k, none⟩ = some (.int .u8 (last.toNat : Int)) := by
      have := hrow.cells (g := r) rfl k _ (bcells_get (init ++ [last]) k (by simp [hk]))
      rw [Addr.add_lit] at this
      simpa [hk] using this
    have hfr : wc.frozen? ⟨r, k, none⟩ = false := hrow.frozenAt k
    have hc0 := hblk.cell 0
    have hc1 := hblk.cell 1
    simp at hc0 hc1
    have HN := Lib.hid hnew
    have HK := Lib.hid hk
    clear hnew hk
    have hk8 : k = bs.length / 8 := by
      have h := pack_length (bs ++ [c]); rw [HN.out] at h; simp at h; have := HK.out; omega
    cases c
    · clear hk8
      have hf1 := hblk.frozen 1
      go_wp2
      go_end0
      refine ⟨rfl, ⟨.slice (some ⟨r, 0, none⟩) (k + 1) cap, ?_, ?_, hB⟩, hfr0.put hblk hB (by simp) 1 _⟩
      · simpa using hblk.put 1 (.int .i64 (bs.length + 1))
      · have h := ((Fr.refl B [54] wc).put hblk hB (by simp) 1 (.int .i64 (bs.length + 1))).owns hrow (by simp)
        unfold BRow
        rw [HN.out]
        have e : bcells (init ++ [last]) = bcells (init ++ [UInt8.ofNat (last.toNat + false.toNat * 2 ^ (bs.length % 8))]) := by simp
        rw [e] at h
        have e2 : (init ++ [UInt8.ofNat (last.toNat + false.toNat * 2 ^ (bs.length % 8))]).length = k + 1 := by simp [HK.out]
        rw [e2]
        exact h
    · obtain ⟨m, hm⟩ : ∃ m, m = bs.length % 8 := ⟨_, rfl⟩
      have hm1 : (bs.length : Int).tmod 8 = (m : Int) := by rw [Int.tmod_eq_emod_of_nonneg (by omega)]; omega
      have hd1 : (bs.length : Int).tdiv 8 = (k : Int) := by rw [Int.tdiv_eq_ediv_of_nonneg (by omega)]; omega
      have hmin : min m 8 = m := by omega
      have hk2 : (k : Int) < (k : Int) + 1 := by omega
      have hw1 : IntKind.i64.wrap (k : Int) = (k : Int) := IntWalk.i64_in _ (by omega)
      obtain ⟨x, hx⟩ : ∃ x : Nat, x = 2 ^ m := ⟨_, rfl⟩
      have hadd := add_new last.toNat m (by omega) (by rw [hm]; exact hlt)
      rw [← hx] at hadd
      have HM := Lib.hid hm
      have HK8 := Lib.hid hk8
      have HX := Lib.hid hx
      clear hm hk8 hx
      go_wp2
      go_still_tail 28, (by kernel_rfl)
      clear hw1 hm1 hmin hk2 hadd hd1
      change wpList _ _ _ _ _ wc.drew
      refine wpList_plain rfl fun K hK => ?_
      go_simp
      refine hK _ _ ?_
      clear hK K
      have hne : g ≠ r := own_ne hblk hrow (by decide)
      have hblk1 := (hblk.other (p := ⟨r, k, none⟩) hne (.int .u8 (↑last.toNat + ↑x))).drew
      have hrow1 := (hrow.stored k (.int .u8 (↑last.toNat + ↑x))).1.drew
      have hfr1 := (hfr0.grown hrow (Nat.le_refl _) (by simp) (hrow.stored k (.int .u8 (↑last.toNat + ↑x))).2).drew
      clear hblk hrow hc0 hc1 hcr hfr
      generalize (wc.setCell { block := r, off := k } (Value.int IntKind.u8 (↑last.toNat + ↑x))).drew = w1 at *
      have hc1 := hblk1.cell 1
      have hf1 := hblk1.frozen 1
      simp at hc1
      go_wp2
      go_end0
      refine ⟨rfl, ⟨.slice (some ⟨r, 0, none⟩) (k + 1) cap, ?_, ?_, hB⟩, hfr1.put hblk1 hB (by simp) 1 _⟩
      · simpa using hblk1.put 1 (.int .i64 (bs.length + 1))
      · have h := ((Fr.refl B [54] w1).put hblk1 hB (by simp) 1 (.int .i64 (bs.length + 1))).owns hrow1 (by simp)
        unfold BRow
        rw [HN.out, ← HM.out]
        have e : (bcells (init ++ [last])).set k (Value.int IntKind.u8 (↑last.toNat + ↑x)) = bcells (init ++ [UInt8.ofNat (last.toNat + true.toNat * 2 ^ m)]) := by
          rw [HK.out, bcells_append, bcells_append, List.set_append_right _ _ (by simp [bcells])]
          have h1 := or_lt last.toNat m true (by have := HM.out; omega) (by rw [HM.out]; exact hlt)
          have h2 := HX.out
          rw [← h2] at h1 ⊢
          simp [bcells] at h1 ⊢
          omega
        rw [e] at h
        have e2 : (init ++ [UInt8.ofNat (last.toNat + true.toNat * 2 ^ m)]).length = k + 1 := by simp [HK.out]
        rw [e2]
        exact h
end Go.Proofs.Ytppfjofaegbbjaa
