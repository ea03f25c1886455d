/-
  Walks: numbers of four bytes, names of chunks.
-/
import Derived.Test.YthbejefodelpkaaGreatZG1
import Derived.Test.YthbejefodelpkaaGreatZC
import Derived.Test.YthbejefodelpkaaGreatZD
namespace Go.Proofs.YthbejefodelpkaaGreat
open Go.RowKit
set_option maxRecDepth 100000

/-- The number in some bytes. -/
def beP (l : List UInt8) : Nat := l.foldl (fun n b => n * 256 + b.toNat) 0
theorem beP_snoc (l : List UInt8) (b : UInt8) : beP (l ++ [b]) = beP l * 256 + b.toNat := by unfold beP; rw [List.foldl_append]; rfl
theorem beP_lt (l : List UInt8) : beP l < 256 ^ l.length := by
  have key : ∀ n (l : List UInt8), l.length = n → beP l < 256 ^ n := by
    intro n
    induction n with
    | zero => intro l h; rw [List.length_eq_zero_iff.1 h]; decide
    | succ n ih =>
      intro l h
      rcases List.eq_nil_or_concat l with rfl | ⟨r, b, rfl⟩
      · simp at h
      · rw [List.concat_eq_append, beP_snoc, Nat.pow_succ]
        have h1 := ih r (by simpa using h)
        have := b.toNat_lt
        omega
  exact key _ l rfl
theorem beP_be4 (x : Nat) (h : x < 4294967296) : beP (be4 x) = x := by
  unfold be4 beP
  simp only [List.foldl_cons, List.foldl_nil, UInt8.toNat_ofNat']
  omega
theorem be4_len (x : Nat) : (be4 x).length = 4 := rfl
theorem be4_beP (l : List UInt8) (h : l.length = 4) : be4 (beP l) = l := by
  match l, h with
  | [a, b, c, d], _ =>
    have ha := a.toNat_lt
    have hb := b.toNat_lt
    have hc := c.toNat_lt
    have hd := d.toNat_lt
    unfold be4 beP
    simp only [List.foldl_cons, List.foldl_nil]
    have e : ∀ (x : UInt8) (n : Nat), n % 256 = x.toNat → UInt8.ofNat n = x := fun x n h => UInt8.toNat_inj.1 (by rw [UInt8.toNat_ofNat']; exact h)
    rw [e a _ (by omega), e b _ (by omega), e c _ (by omega), e d _ (by omega)]
theorem gor_byte (n b : Nat) (hn : n < 1099511627776) (hb : b < 256) : bits .or .i64 ((n : Int) * 256) (b : Int) = ((n * 256 + b : Nat) : Int) := by
  rw [show (n : Int) * 256 = ((n * 256 : Nat) : Int) by omega, or_nat _ _ (by omega) (by omega)]
  congr 1
  have := Nat.two_pow_add_eq_or_of_lt (i := 8) (b := b) (by omega) n
  rw [Nat.mul_comm n 256]
  exact this.symm

set_option maxHeartbeats 2000000 in
theorem gnumber_any (s : ByteArray) (w : World) (hs : s.size ≤ 4) : Calls Tryz.prog 32 #[.string s] w fun e w' => e = .returned (.int .i64 (beP s.data.toList : Nat)) ∧ w = w' := by
  have HSZ : Hid (s.size = s.data.toList.length) := by show _ = _; simp
  go_enter Tryz.func32, Tryz.ntmps32
  go_wp2_with fail
  go_loopw [3, 7] (fun vn vi wr => ∃ (i n : Nat), vn = .int .i64 n ∧ vi = .int .i64 i ∧ i ≤ s.size ∧ Hid (n = beP (s.data.toList.take i)) ∧ Hid (w = wr)) (fun _ vi _ => s.size - (intOf vi).toNat)
  case atStart => exact ⟨0, 0, rfl, rfl, Nat.zero_le _, rfl, rfl⟩
  case round =>
    obtain ⟨i, n, rfl, rfl, hi, hn, hwr⟩ := hrel
    have hsz := HSZ.out
    by_cases hlt : i < s.size
    · have hd : decide ((i : Int) < (s.size : Int)) = true := by simp; omega
      obtain ⟨b, hb⟩ : ∃ b, s[i] = b := ⟨_, rfl⟩
      have hbl : s.data.toList[i]'(by omega) = b := by rw [← hb]; rfl
      have hbt := b.toNat_lt
      have HNX : Hid (n * 256 + b.toNat = beP (s.data.toList.take (i + 1))) := by
        show _ = _
        rw [List.take_succ_eq_append_getElem (by omega), beP_snoc, hbl, hn.out]
      have hnl : n < 16777216 := by
        rw [hn.out]
        have h1 := beP_lt (s.data.toList.take i)
        have h2 : 256 ^ (s.data.toList.take i).length ≤ 256 ^ 3 := Nat.pow_le_pow_right (by decide) (by rw [List.length_take]; omega)
        omega
      have ho := gor_byte n b.toNat (by omega) hbt
      generalize hz : n * 256 + b.toNat = z at *
      have hzl : z < 4294967296 := by omega
      clear hbl hn hsz hz
      go_wp2_with fail
      go_roundw
      case rel => exact ⟨i + 1, z, by go_num, by go_num, by omega, HNX, hwr⟩
      case measure => simp [intOf]; omega
    · have hd : decide ((i : Int) < (s.size : Int)) = false := by simp; omega
      have HF : Hid (beP s.data.toList = n) := by
        show _ = _
        rw [hn.out, List.take_of_length_le (by omega)]
      clear hn hsz
      go_wp2_with fail
      go_ret
      exact ⟨by rw [HF.out]; rfl, hwr.out⟩

/-- A letter. -/
def letB (b : UInt8) : Bool := (decide (65 ≤ b.toNat) && decide (b.toNat ≤ 90)) || (decide (97 ≤ b.toNat) && decide (b.toNat ≤ 122))
/-- A name of a chunk. -/
def nameP (l : List UInt8) : Bool := l.length == 4 && l.all letB
theorem or32 (b : UInt8) : ∃ c : Nat, bits .or .u8 (b.toNat : Int) 32 = (c : Int) ∧ c < 256 ∧ letB b = !(decide (c < 97) || decide (122 < c)) := by
  have key : ∀ n : Fin 256, bits .or .u8 (n.val : Int) 32 = ((n.val ||| 32 : Nat) : Int) ∧ (n.val ||| 32) < 256 ∧ ((decide (65 ≤ n.val) && decide (n.val ≤ 90)) || (decide (97 ≤ n.val) && decide (n.val ≤ 122))) = !(decide ((n.val ||| 32) < 97) || decide (122 < (n.val ||| 32))) := by decide +kernel
  exact ⟨_, (key ⟨b.toNat, b.toNat_lt⟩)⟩

set_option maxHeartbeats 2000000 in
theorem gisName_any (s : ByteArray) (w : World) : Calls Tryz.prog 33 #[.string s] w fun e w' => e = .returned (.bool (nameP s.data.toList)) ∧ w = w' := by
  have HSZ : Hid (s.size = s.data.toList.length) := by show _ = _; simp
  by_cases h4 : s.size = 4
  · have d4 : ((s.size : Int) == 4) = true := by simp; omega
    go_enter Tryz.func33, Tryz.ntmps33
    go_wp2_with fail
    go_loopw [10] (fun vi wr => ∃ i : Nat, vi = .int .i64 i ∧ i ≤ s.size ∧ Hid (nameP s.data.toList = (s.data.toList.drop i).all letB) ∧ Hid (w = wr)) (fun vi _ => s.size - (intOf vi).toNat)
    case atStart => exact ⟨0, rfl, Nat.zero_le _, by show _ = _; unfold nameP; rw [← HSZ.out, h4]; rfl, rfl⟩
    case round =>
      obtain ⟨i, rfl, hi, hn, hwr⟩ := hrel
      have hsz := HSZ.out
      by_cases hlt : i < s.size
      · have hd : decide ((i : Int) < (s.size : Int)) = true := by simp; omega
        obtain ⟨b, hb⟩ : ∃ b, s[i] = b := ⟨_, rfl⟩
        have hbl : s.data.toList[i]'(by omega) = b := by rw [← hb]; rfl
        obtain ⟨c, hc, hc2, hl⟩ := or32 b
        have HNX : Hid (nameP s.data.toList = (letB b && (s.data.toList.drop (i + 1)).all letB)) := by
          show _ = _
          rw [hn.out, List.drop_eq_getElem_cons (by omega), List.all_cons, hbl]
        rw [hl] at HNX
        by_cases h1 : c < 97
        · have hd1 : decide ((c : Int) < 97) = true := by simp; omega
          have HF : Hid (nameP s.data.toList = false) := by show _ = _; rw [HNX.out]; simp [h1]
          clear hbl hn hsz hl HNX
          go_wp2_with fail
          go_ret
          exact ⟨by rw [HF.out]; rfl, hwr.out⟩
        · have hd1 : decide ((c : Int) < 97) = false := by simp; omega
          by_cases h2 : 122 < c
          · have hd2 : decide ((122 : Int) < (c : Int)) = true := by simp; omega
            have HF : Hid (nameP s.data.toList = false) := by show _ = _; rw [HNX.out]; simp [h2]
            clear hbl hn hsz hl HNX
            go_wp2_with fail
            go_ret
            exact ⟨by rw [HF.out]; rfl, hwr.out⟩
          · have hd2 : decide ((122 : Int) < (c : Int)) = false := by simp; omega
            have HF : Hid (nameP s.data.toList = (s.data.toList.drop (i + 1)).all letB) := by show _ = _; rw [HNX.out]; simp [h1, h2]
            clear hbl hn hsz hl HNX
            go_wp2_with fail
            go_roundw
            case rel => exact ⟨i + 1, by go_num, by omega, HF, hwr⟩
            case measure => simp [intOf]; omega
      · have hd : decide ((i : Int) < (s.size : Int)) = false := by simp; omega
        have HF : Hid (nameP s.data.toList = true) := by
          show _ = _
          rw [hn.out, List.drop_of_length_le (by omega)]; rfl
        clear hn hsz
        go_wp2_with fail
        go_ret
        exact ⟨by rw [HF.out]; rfl, hwr.out⟩
  · have d4 : ((s.size : Int) == 4) = false := by simp; omega
    have HF : Hid (nameP s.data.toList = false) := by
      show _ = _
      unfold nameP
      rw [← HSZ.out]
      simp [h4]
    go_enter Tryz.func33, Tryz.ntmps33
    go_wp2_with fail
    go_ret
    exact ⟨by rw [HF.out]; rfl, rfl⟩

set_option maxHeartbeats 2000000 in
theorem gfour_any (n : Nat) (hn : n < 4294967296) (w : World) : Calls Tryz.prog 40 #[.int .i64 n] w fun e w' => e = .returned (.string ⟨(be4 n).toArray⟩) ∧ Below w.heap.size w w' := by
  have HW := Lib.hid (fun (o : Obj) => (Below.refl w.heap.size w).alloc (Nat.le_refl _) o)
  have w1 : IntKind.u8.wrap ((n : Int) / 16777216) = (n : Int) / 16777216 := by rw [IntKind.wrap_u8]; omega
  have w2 : IntKind.u8.wrap ((n : Int) / 65536) = (n : Int) / 65536 % 256 := by rw [IntKind.wrap_u8]
  have w3 : IntKind.u8.wrap ((n : Int) / 256) = (n : Int) / 256 % 256 := by rw [IntKind.wrap_u8]
  have w4 : IntKind.u8.wrap (n : Int) = (n : Int) % 256 := by rw [IntKind.wrap_u8]
  have hk := Blk.new w 5 #[.int .u8 ((n : Int) / 16777216), .int .u8 ((n : Int) / 65536 % 256), .int .u8 ((n : Int) / 256 % 256), .int .u8 ((n : Int) % 256)]
  have hc := conv4 n hn (w.alloc (.cells #[.int .u8 ((n : Int) / 16777216), .int .u8 ((n : Int) / 65536 % 256), .int .u8 ((n : Int) / 256 % 256), .int .u8 ((n : Int) % 256)] 5)) w.heap.size (hk.cell 0) (hk.cell 1) (hk.cell 2) (hk.cell 3)
  clear hk
  go_enter Tryz.func40, Tryz.ntmps40
  go_wp2_with fail
  go_ret
  exact ⟨rfl, HW.out _⟩
end Go.Proofs.YthbejefodelpkaaGreat
