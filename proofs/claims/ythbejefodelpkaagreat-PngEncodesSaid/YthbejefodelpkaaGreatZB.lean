/-
  Plain lemmas: bits packed into bytes, the least significant bit first.
  Walks: deflate.input and deflate.Stored return what the plain functions say, for every string; no conditions beyond Go's own bound on lengths.
  Walks: writing one bit, in the program and in the reference.
  Walks: writing numbers and codes, in the program and in the reference.
  Plain definitions and lemmas: matches, and how the finder's chains lead to the longest and nearest one.
  Plain definitions: what the layer deflate computes.
  Walks: the symbols of lengths and distances, and the codes of symbols, in the program and in the reference.
  Walk: writing a match.
  Walk: the hash of three bytes.
  Walk: adding a place to the finder.
-/
import Derived.Test.YthbejefodelpkaaGreatProg
import Derived.Test.YthbejefodelpkaaGreatZA
import Derived.StillTailTactics
import Derived.Deep.DeepCutAuto
import Derived.Laws.BitsAllLaws
import Derived.Laws.BitsLemmas
namespace Go.Proofs.YthbejefodelpkaaGreat

def byteOf : List Bool → Nat
  | [] => 0
  | b :: t => b.toNat + 2 * byteOf t

theorem byteOf_lt (l : List Bool) : byteOf l < 2 ^ l.length := by
  induction l with
  | nil => simp [byteOf]
  | cons b t ih =>
    simp only [byteOf, List.length_cons, Nat.pow_succ]
    cases b <;> simp <;> omega

theorem byteOf_snoc (l : List Bool) (b : Bool) : byteOf (l ++ [b]) = byteOf l + b.toNat * 2 ^ l.length := by
  induction l with
  | nil => simp [byteOf]
  | cons c t ih =>
    simp only [List.cons_append, byteOf, ih, List.length_cons, Nat.pow_succ]
    rw [Nat.mul_add, ← Nat.add_assoc]
    congr 1
    rw [Nat.mul_left_comm, Nat.mul_comm 2 (2 ^ t.length)]

theorem byteOf_bit (l : List Bool) (i : Nat) : (byteOf l).testBit i = l.getD i false := by
  induction l generalizing i with
  | nil => simp [byteOf]
  | cons b t ih =>
    cases i with
    | zero => cases b <;> simp [byteOf, Nat.testBit_zero] <;> omega
    | succ i =>
      rw [Nat.testBit_succ]
      have : (b.toNat + 2 * byteOf t) / 2 = byteOf t := by cases b <;> simp <;> omega
      simp only [byteOf, this, ih]
      simp

def pack (l : List Bool) : List UInt8 :=
  if l.length = 0 then [] else UInt8.ofNat (byteOf (l.take 8)) :: pack (l.drop 8)
termination_by l.length
decreasing_by simp; omega

theorem pack_nil : pack [] = [] := by rw [pack]; simp
theorem pack_of (l : List Bool) (h : l ≠ []) : pack l = UInt8.ofNat (byteOf (l.take 8)) :: pack (l.drop 8) := by
  rw [pack, if_neg (by simpa using h)]

theorem pack_length (l : List Bool) : (pack l).length = (l.length + 7) / 8 := by
  induction h : l.length using Nat.strongRecOn generalizing l with
  | _ n ih =>
    by_cases hl : l = []
    · subst hl; simp at h; subst h; simp [pack_nil]
    · have hp : 0 < l.length := List.length_pos_iff.2 hl
      rw [pack_of l hl, List.length_cons, ih (l.drop 8).length (by simp; omega) _ rfl, List.length_drop]
      omega

theorem pack_snoc_new (l : List Bool) (b : Bool) (h8 : l.length % 8 = 0) : pack (l ++ [b]) = pack l ++ [UInt8.ofNat b.toNat] := by
  induction h : l.length using Nat.strongRecOn generalizing l with
  | _ n ih =>
    by_cases hl : l = []
    · subst hl
      rw [pack_of _ (by simp)]; simp [pack_nil, byteOf]
    · have hp : 0 < l.length := List.length_pos_iff.2 hl
      have h8' : 8 ≤ l.length := by omega
      rw [pack_of _ (by simp), pack_of l hl, List.take_append_of_le_length h8', List.drop_append_of_le_length h8', ih (l.drop 8).length (by simp; omega) _ (by simp; omega) rfl]
      simp

theorem pack_snoc_old (l : List Bool) (b : Bool) (h8 : l.length % 8 ≠ 0) : ∃ init last, pack l = init ++ [last] ∧ last.toNat < 2 ^ (l.length % 8) ∧
    pack (l ++ [b]) = init ++ [UInt8.ofNat (last.toNat + b.toNat * 2 ^ (l.length % 8))] := by
  induction h : l.length using Nat.strongRecOn generalizing l with
  | _ n ih =>
    subst h
    have hl : l ≠ [] := by rintro rfl; simp at h8
    by_cases hlt : l.length < 8
    · refine ⟨[], UInt8.ofNat (byteOf l), ?_, ?_, ?_⟩
      · rw [pack_of l hl, List.take_of_length_le (by omega), List.drop_of_length_le (by omega), pack_nil]; rfl
      · have := byteOf_lt l
        rw [Nat.mod_eq_of_lt hlt, UInt8.toNat_ofNat']
        exact Nat.lt_of_le_of_lt (Nat.mod_le _ _) this
      · rw [pack_of _ (by simp), List.take_of_length_le (by simp; omega), List.drop_of_length_le (by simp; omega), pack_nil, byteOf_snoc, Nat.mod_eq_of_lt hlt, UInt8.toNat_ofNat']
        have h2 : byteOf l < 256 := Nat.lt_of_lt_of_le (byteOf_lt l) (by
          have : 2 ^ l.length ≤ 2 ^ 8 := Nat.pow_le_pow_right (by omega) (by omega)
          simpa using this)
        rw [Nat.mod_eq_of_lt (by simpa using h2)]; rfl
    · have h8' : 8 ≤ l.length := by omega
      obtain ⟨init, last, h1, h2, h3⟩ := ih (l.drop 8).length (by simp; omega) (l.drop 8) (by simp; omega) rfl
      have hm : (l.drop 8).length % 8 = l.length % 8 := by simp; omega
      rw [hm] at h2 h3
      refine ⟨UInt8.ofNat (byteOf (l.take 8)) :: init, last, ?_, h2, ?_⟩
      · rw [pack_of l hl, h1]; rfl
      · rw [pack_of _ (by simp), List.take_append_of_le_length h8', List.drop_append_of_le_length h8', h3]; rfl

theorem pack_bit (l : List Bool) (i : Nat) (hi : i < l.length) : ((pack l).getD (i / 8) 0).toNat.testBit (i % 8) = l[i] := by
  induction h : l.length using Nat.strongRecOn generalizing l i with
  | _ n ih =>
    subst h
    have hl : l ≠ [] := by rintro rfl; simp at hi
    rw [pack_of l hl]
    by_cases hlt : i < 8
    · rw [Nat.div_eq_of_lt hlt, Nat.mod_eq_of_lt hlt]
      simp only [List.getD_cons_zero, UInt8.toNat_ofNat']
      have h2 : byteOf (l.take 8) < 2 ^ 8 := Nat.lt_of_lt_of_le (byteOf_lt _) (Nat.pow_le_pow_right (by omega) (by simp; omega))
      rw [Nat.mod_eq_of_lt h2, byteOf_bit]
      simp [List.getD, hlt, hi]
    · have e1 : i / 8 = (i - 8) / 8 + 1 := by omega
      have e2 : i % 8 = (i - 8) % 8 := by omega
      rw [e1, e2, List.getD_cons_succ]
      rw [ih (l.drop 8).length (by simp; omega) (l.drop 8) (i - 8) (by simp; omega) rfl]
      simp
      congr 1
      omega

/-- The bits of a number, the least significant one first. -/
def numBits (v n : Nat) : List Bool := (List.range n).map fun i => v.testBit i
/-- The bits of a code, the most significant one first. -/
def codeBits (v n : Nat) : List Bool := (numBits v n).reverse
theorem numBits_length (v n : Nat) : (numBits v n).length = n := by simp [numBits]
theorem codeBits_length (v n : Nat) : (codeBits v n).length = n := by simp [codeBits, numBits]
theorem numBits_succ (v n : Nat) : numBits v (n + 1) = numBits v n ++ [v.testBit n] := by simp [numBits, List.range_succ]
theorem codeBits_succ (v n : Nat) : codeBits v (n + 1) = v.testBit n :: codeBits v n := by simp [codeBits, numBits_succ]

end Go.Proofs.YthbejefodelpkaaGreat
namespace Go.Proofs.YthbejefodelpkaaGreat
open Go.RowKit
set_option maxRecDepth 100000

theorem del_u8 : Elem Tryz.prog 54 5 (.int .u8 0) 1 1 := by
  refine ⟨Tryz.underlying54, ?_, rfl, by decide⟩
  exact info_parts (by kernel_rfl)

theorem input_any (s : ByteArray) (w : World) (hs : s.size ≤ maxLen) :
    Calls Tryz.prog 71 #[.string s] w fun e w' => e = .returned (.string (s.extract 0 (min s.size 1048576))) ∧ w = w' := by
  unfold maxLen at hs
  go_enter Tryz.func71, Tryz.ntmps71
  by_cases h : s.size ≤ 1048576
  · go_wp2
    go_ret
    refine ⟨?_, rfl⟩
    rw [Nat.min_eq_left (by omega)]; simp
  · go_wp2
    go_ret
    refine ⟨?_, rfl⟩
    rw [Nat.min_eq_right (by omega)]; rfl

def hdr (last n : Nat) : List UInt8 := [UInt8.ofNat last, UInt8.ofNat n, UInt8.ofNat (n / 256), UInt8.ofNat (255 - n % 256), UInt8.ofNat (255 - n / 256 % 256)]
def stored (l : List UInt8) : List UInt8 :=
  if l.length ≤ 65535 then hdr 1 l.length ++ l else hdr 0 65535 ++ (l.take 65535 ++ stored (l.drop 65535))
termination_by l.length
decreasing_by simp; omega

theorem hdr_cells (last : Int) (k n : Nat) (hk : last = (k : Int)) (hk' : k < 256) (h : n < 65536) :
    [Value.int .u8 last, Value.int .u8 ((n : Int) % 256), Value.int .u8 ((n : Int) / 256), Value.int .u8 (bits .xor .u8 (if IntKind.u8.signed = true then -1 else IntKind.u8.max) ((n : Int) % 256)),
      Value.int .u8 (bits .xor .u8 (if IntKind.u8.signed = true then -1 else IntKind.u8.max) ((n : Int) / 256))] = bcells (hdr k n) := by
  rw [xor255 _ (by omega) (by omega), xor255 _ (by omega) (by omega)]
  simp only [bcells, hdr, List.map_cons, List.map_nil]
  rw [cell_byte last k (by omega), cell_byte ((n : Int) % 256) n (by omega), cell_byte ((n : Int) / 256) (n / 256) (by omega), cell_byte (255 - (n : Int) % 256) (255 - n % 256) (by omega), cell_byte (255 - (n : Int) / 256) (255 - n / 256 % 256) (by omega)]

set_option maxHeartbeats 400000 in
theorem dstored_any (s : ByteArray) (w : World) (hs : s.size ≤ maxLen) :
    Calls Tryz.prog 101 #[.string s] w fun e w' => e = .returned (.string ⟨(stored (s.data.toList.take 1048576)).toArray⟩) ∧ Below w.heap.size w w' := by
  go_enter Tryz.func101, Tryz.ntmps101
  go_wp2_with (go_at_call 71; refine (input_any _ _ hs).mono ?_; rintro e w' ⟨rfl, rfl⟩)
  go_loopw [0, 3] (fun t v wr => ∃ (r : ByteArray) (done : List UInt8), t = .string r ∧ BRow wr w.heap.size 5 v done ∧ done.length + 2 * r.size ≤ 20000000 ∧ Hid (done ++ stored r.data.toList = stored (s.data.toList.take 1048576)) ∧ Below w.heap.size w wr ∧ w.heap.size ≤ wr.heap.size) (fun t _ _ => strLen t)
  case atStart =>
    refine ⟨_, [], rfl, World.ownsRow_nil _ _ _ _, ?_, ?_, Below.refl _ _, Nat.le_refl _⟩
    · simp [ByteArray.size_extract]; omega
    · show _ = _
      rw [extract_list]
      simp
      congr 1
      by_cases h : s.size ≤ 1048576
      · rw [Nat.min_eq_left h, List.take_of_length_le (by simp), List.take_of_length_le (by simpa using h)]
      · rw [Nat.min_eq_right (by omega)]
  case round =>
    obtain ⟨r, done, rfl, hown, hlen, hst, hbel, hsz⟩ := hrel
    by_cases hr : r.size ≤ 65535
    · go_wp2_with (at_builtin; refine wpList_app del_u8 hown hsz rfl rfl rfl (m := 4) rfl (by simp [Value.oneCell']) rfl (by omega) (by unfold maxLen; omega) ?_)
      intro r1 cap1 w1 ho1 hg1 _
      have hown1 := brow_more ho1 (hdr 1 r.size) (hdr_cells 1 1 r.size rfl (by omega) (by omega)) rfl
      obtain ⟨hbel1, hsz1⟩ := below_app hbel hsz hown hg1
      have hl1 : (done ++ hdr 1 r.size).length ≤ done.length + 5 := by simp [hdr]
      clear ho1 hg1 hown
      go_wp2_with (at_builtin; refine wpList_app_str del_u8 Tryz.underlying9 hown1 hsz1 rfl rfl rfl rfl (by omega) ?_)
      intro v2 w2 hown2 hg2
      obtain ⟨hbel2, hsz2⟩ := below_app' hbel1 hsz1 hown1 hg2
      have hcv := run_str_of Tryz.underlying54 Tryz.underlying5 Tryz.underlying9 hown2
      clear hg2 hown1
      go_wp2
      go_ret
      refine ⟨?_, hbel2⟩
      have h := hst.out
      rw [stored, if_pos (by simpa using hr)] at h
      rw [← h]
      simp
    · have hr' : 65535 < r.size := by omega
      clear hr
      go_wp2_with (at_builtin; refine wpList_app del_u8 hown hsz rfl rfl rfl (m := 4) rfl (by simp [Value.oneCell']) rfl (by omega) (by unfold maxLen; omega) ?_)
      intro r1 cap1 w1 ho1 hg1 _
      have hown1 := brow_more ho1 (hdr 0 65535) (by kernel_rfl) rfl
      obtain ⟨hbel1, hsz1⟩ := below_app hbel hsz hown hg1
      have hl1 : (done ++ hdr 0 65535).length ≤ done.length + 5 := by simp [hdr]
      clear ho1 hg1 hown
      go_wp2_with (at_builtin; refine wpList_app_str del_u8 Tryz.underlying9 hown1 hsz1 rfl rfl rfl rfl ?hb ?_)
      case hb => rw [ByteArray.size_extract]; omega
      intro v2 w2 hown2 hg2
      obtain ⟨hbel2, hsz2⟩ := below_app' hbel1 hsz1 hown1 hg2
      clear hg2 hown1
      go_wp2
      go_roundw
      case rel =>
        refine ⟨_, _, rfl, hown2, ?_, ?_, hbel2, hsz2⟩
        · simp [hdr]; omega
        · show _ = _
          have h := hst.out
          rw [stored, if_neg (by simp; omega)] at h
          rw [← h, extract_list]
          simp [List.take_of_length_le]
      case measure => simp [strLen]; omega
end Go.Proofs.YthbejefodelpkaaGreat
namespace Go.Proofs.YthbejefodelpkaaGreat
open Go.RowKit
set_option maxRecDepth 100000

/-- Behind the pointer ⟨g, 0⟩ lies a struct of type T: the bytes and the number of the bits that were written. -/
def Wr (T : TypeId) (w : World) (B g : Nat) (bs : List Bool) : Prop :=
  ∃ v, Blk w g T #[v, .int .i64 bs.length] ∧ BRow w B 5 v (pack bs) ∧ B ≤ g

theorem and_one (b : Int) : bits .and .i64 b 1 = b % 2 := by
  show IntKind.i64.wrap ((BitVec.ofInt 64 b &&& BitVec.ofInt 64 1).toNat : Int) = _
  have h1 : (BitVec.ofInt 64 1) = 1#64 := by decide
  rw [h1, BitVec.toNat_and]
  have : (BitVec.ofInt 64 b).toNat % 2 = (b % 2).toNat := by
    rw [BitVec.toNat_ofInt]; omega
  simp only [BitVec.toNat_ofNat, Nat.reducePow, Nat.reduceMod, Nat.and_one_is_mod, this, IntKind.wrap_i64]
  omega
theorem or_new (last m : Nat) (c : Bool) (hm : m < 8) (h : last < 2 ^ m) : bits .or .u8 (last : Int) (IntKind.u8.wrap ((c.toNat : Int) * 2 ^ m)) = ((last + c.toNat * 2 ^ m : Nat) : Int) := by
  have key : ∀ m : Fin 8, ∀ c : Bool, ∀ last : Fin 128, last.val < 2 ^ m.val → bits .or .u8 (last.val : Int) (IntKind.u8.wrap ((c.toNat : Int) * 2 ^ m.val)) = ((last.val + c.toNat * 2 ^ m.val : Nat) : Int) := by decide +kernel
  have : last < 128 := Nat.lt_of_lt_of_le h (by have : 2 ^ m ≤ 2 ^ 7 := Nat.pow_le_pow_right (by omega) (by omega); simpa using this)
  exact key ⟨m, hm⟩ c ⟨last, this⟩ h

theorem add_new (last m : Nat) (hm : m < 8) (h : last < 2 ^ m) : IntKind.u8.wrap ((last : Int) + IntKind.u8.wrap (2 ^ m)) = (last : Int) + ((2 ^ m : Nat) : Int) := by
  have : 2 ^ m ≤ 2 ^ 7 := Nat.pow_le_pow_right (by omega) (by omega)
  have e : (2 : Int) ^ m = ((2 ^ m : Nat) : Int) := by simp
  rw [e, IntKind.wrap_u8, IntKind.wrap_u8]
  omega
theorem or_lt (last m : Nat) (c : Bool) (hm : m < 8) (h : last < 2 ^ m) : last + c.toNat * 2 ^ m < 256 := by
  have : 2 ^ m ≤ 2 ^ 7 := Nat.pow_le_pow_right (by omega) (by omega)
  cases c <;> simp <;> omega

/-- Behind the test of 'bit': there is a last byte into which the bit goes. -/
def WrMid (T : TypeId) (w : World) (B g : Nat) (bs : List Bool) (c : Bool) (w0 : World) : Prop :=
  ∃ (k : Nat) (init : List UInt8) (last : UInt8) (r cap : Nat), k = init.length ∧ Blk w g T #[.slice (some ⟨r, 0, none⟩) (k + 1) cap, .int .i64 bs.length] ∧
    w.ownsRow B 5 1 (.slice (some ⟨r, 0, none⟩) (k + 1) cap) (k + 1) (bcells (init ++ [last])) ∧ last.toNat < 2 ^ (bs.length % 8) ∧
    pack (bs ++ [c]) = init ++ [UInt8.ofNat (last.toNat + c.toNat * 2 ^ (bs.length % 8))] ∧ k < 1000000000 ∧ Fr B [T, 5] w0 w

theorem wrMid_old {T : TypeId} {w : World} {B g : Nat} {bs : List Bool} {c : Bool} {v : Value} (hblk : Blk w g T #[v, .int .i64 bs.length]) (hrow : BRow w B 5 v (pack bs)) (h8 : bs.length % 8 ≠ 0) (hlen : bs.length < 1000000000) : WrMid T w B g bs c w := by
  obtain ⟨init, last, hp, hlt, hnew⟩ := pack_snoc_old bs c h8
  unfold BRow at hrow
  rw [hp] at hrow
  have hk1 : (init ++ [last]).length = init.length + 1 := by simp
  rw [hk1] at hrow
  obtain ⟨r, cap, rfl, hBr, hrl⟩ := hrow.form (by simp)
  refine ⟨init.length, init, last, r, cap, rfl, hblk, hrow, hlt, hnew, ?_, Fr.refl _ _ _⟩
  have := pack_length bs; rw [hp] at this; simp at this; omega

theorem wrMid_new {T : TypeId} {w w0 : World} {B g : Nat} {bs : List Bool} {c : Bool} {v : Value} (hblk : Blk w g T #[v, .int .i64 bs.length]) (hrow : w.ownsRow B 5 1 v ((pack bs).length + 1) (bcells (pack bs) ++ [.int .u8 0])) (h8 : bs.length % 8 = 0) (hlen : bs.length < 1000000000)
    (hf : Fr B [T, 5] w0 w) : WrMid T w B g bs c w0 := by
  have hrow' : w.ownsRow B 5 1 v ((pack bs).length + 1) (bcells (pack bs ++ [0])) := by rw [bcells_append]; exact hrow
  obtain ⟨r, cap, rfl, hBr, hrl⟩ := hrow.form (by simp)
  refine ⟨(pack bs).length, pack bs, 0, r, cap, rfl, hblk, hrow', by simp [Nat.two_pow_pos], ?_, ?_, hf⟩
  · rw [pack_snoc_new bs c h8, h8]; simp
  · rw [pack_length]; omega

set_option maxHeartbeats 1000000 in
theorem bit_any (w : World) (B g : Nat) (bs : List Bool) (b : Int) (c : Bool) (hb : b % 2 = c.toNat) (h : Wr 123 w B g bs) (hlen : bs.length < 1000000000) :
    Calls Tryz.prog 146 #[.pointer (some ⟨g, 0, none⟩), .int .i64 b] w fun e w' => e = .returned (.tuple #[]) ∧ Wr 123 w' B g (bs ++ [c]) ∧ Fr B [123, 5] w w' := by
  obtain ⟨v, hblk, hrow, hB⟩ := h
  have hc0 := hblk.cell 0
  have hc1 := hblk.cell 1
  have hf0 := hblk.frozen 0
  have hsz := hblk.lt
  simp at hc0 hc1
  go_enter Tryz.func146, Tryz.ntmps146
  go_upto_if 9 with (fail)
  go_cut [] (fun wx => WrMid 123 wx B g bs c w)
  case first =>
    by_cases h8 : bs.length % 8 = 0
    · have h8' : ((bs.length : Int) % 8 == 0) = true := by simp; omega
      go_wp2_with (at_builtin; refine wpList_app del_u8 hrow (by omega) rfl rfl rfl (m := 0) rfl (by simp [Value.oneCell']) rfl ?hb ?hl ?_)
      case hb => rw [pack_length]; omega
      case hl => rw [pack_length]; unfold maxLen; omega
      intro r1 cap1 w1 ho1 hg1 _
      have hf1 := ((Fr.refl B [123, 5] w).alloc (.cells #[.int .u8 0] 5)).grown (hrow.alloc _) (Nat.le_refl _) (by simp) hg1
      have hblk1 := hblk.alloc (.cells #[.int .u8 0] 5)
      have hblk2 : Blk w1 g 123 #[v, .int .i64 bs.length] := (hg1.block g hblk1.lt (own_blk_ne' hblk (hrow.2) (by decide))).trans hblk1
      have hc01 := hblk2.cell 0
      have hf01 := hblk2.frozen 0
      simp at hc01
      clear hg1 hblk1 hblk hrow hc0 hc1 hf0
      have hblk3 := hblk2.put 0 (.slice (some ⟨r1, 0, none⟩) ((pack bs).length + 1) cap1)
      have ho3 := ((Fr.refl B [123] w1).put hblk2 hB (by simp) 0 (.slice (some ⟨r1, 0, none⟩) ((pack bs).length + 1) cap1)).owns ho1 (by simp)
      have hf3 := hf1.put hblk2 hB (by simp) 0 (.slice (some ⟨r1, 0, none⟩) ((pack bs).length + 1) cap1)
      simp at hblk3
      have HB := Lib.hid hblk3
      have HO := Lib.hid ho3
      have HF := Lib.hid hf3
      clear hblk3 ho3 hf3 ho1 hf1 hblk2
      go_wp2
      go_meet
      exact wrMid_new HB.out HO.out h8 hlen HF.out
    · have h8' : ((bs.length : Int) % 8 == 0) = false := by simp; omega
      go_wp2
      go_meet
      exact wrMid_old hblk hrow h8 hlen
  case rest =>
    obtain ⟨k, init, last, r, cap, hk, hblk, hrow, hlt, hnew, hkl, hfr0⟩ := hcut
    have hcr : wc.cell? ⟨r, k, none⟩ = some (.int .u8 (last.toNat : Int)) := by
      have := hrow.cells (g := r) rfl k _ (bcells_get (init ++ [last]) k (by simp [hk]))
      rw [Addr.add_lit] at this
      simpa [hk] using this
    have hfr : wc.frozen? ⟨r, k, none⟩ = false := hrow.frozenAt k
    have hc0 := hblk.cell 0
    have hc1 := hblk.cell 1
    simp at hc0 hc1
    have HN := Lib.hid hnew
    have HK := Lib.hid hk
    clear hnew hk
    have hw1 : IntKind.i64.wrap (k : Int) = (k : Int) := IntWalk.i64_in _ (by omega)
    have hk2 : (k : Int) < (k : Int) + 1 := by omega
    obtain ⟨m, hm⟩ : ∃ m, m = bs.length % 8 := ⟨_, rfl⟩
    have hm1 : (bs.length : Int).tmod 8 = (m : Int) := by rw [Int.tmod_eq_emod_of_nonneg (by omega)]; omega
    have hmin : min m 8 = m := by omega
    have hx : IntKind.u8.wrap (bits .and .i64 b 1) = (c.toNat : Int) := by rw [and_one, hb]; cases c <;> rfl
    have hor := or_new last.toNat m c (by omega) (by rw [hm]; exact hlt)
    have HM := Lib.hid hm
    clear hm
    go_wp2
    go_still_tail 23, (by kernel_rfl)
    clear hw1 hm1 hmin hx
    have HOR := Lib.hid hor
    clear hor
    change wpList _ _ _ _ _ wc.drew
    refine wpList_plain rfl fun K hK => ?_
    go_simp
    refine hK _ _ ?_
    clear hK K
    have hne : g ≠ r := own_ne hblk hrow (by decide)
    have hblk1 := (hblk.other (p := ⟨r, k, none⟩) hne (.int .u8 (↑last.toNat + ↑c.toNat * 2 ^ m))).drew
    have hrow1 := (hrow.stored k (.int .u8 (↑last.toNat + ↑c.toNat * 2 ^ m))).1.drew
    have hfr1 := (hfr0.grown hrow (Nat.le_refl _) (by simp) (hrow.stored k (.int .u8 (↑last.toNat + ↑c.toNat * 2 ^ m))).2).drew
    clear hblk hrow hc0 hc1 hcr hfr
    generalize (wc.setCell { block := r, off := k } (Value.int IntKind.u8 (↑last.toNat + ↑c.toNat * 2 ^ m))).drew = w1 at *
    have hc1 := hblk1.cell 1
    have hf1 := hblk1.frozen 1
    simp at hc1
    go_wp2
    go_end0
    refine ⟨rfl, ⟨.slice (some ⟨r, 0, none⟩) (k + 1) cap, ?_, ?_, hB⟩, hfr1.put hblk1 hB (by simp) 1 _⟩
    · simpa using hblk1.put 1 (.int .i64 (bs.length + 1))
    · have h := ((Fr.refl B [123] w1).put hblk1 hB (by simp) 1 (.int .i64 (bs.length + 1))).owns hrow1 (by simp)
      unfold BRow
      rw [HN.out, ← HM.out]
      have e : (bcells (init ++ [last])).set k (Value.int IntKind.u8 (↑last.toNat + ↑c.toNat * 2 ^ m)) = bcells (init ++ [UInt8.ofNat (last.toNat + c.toNat * 2 ^ m)]) := by
        rw [HK.out, bcells_append, bcells_append, List.set_append_right _ _ (by simp [bcells])]
        simp [bcells]
        have h1 := or_lt last.toNat m c (by have := HM.out; omega) (by rw [HM.out]; exact hlt)
        have h2 : (c.toNat : Int) * 2 ^ m = ((c.toNat * 2 ^ m : Nat) : Int) := by simp
        rw [h2]
        omega
      rw [e] at h
      have e2 : (init ++ [UInt8.ofNat (last.toNat + c.toNat * 2 ^ m)]).length = k + 1 := by simp [HK.out]
      rw [e2]
      exact h
set_option maxHeartbeats 1000000 in
theorem rbit_any (w : World) (B g : Nat) (bs : List Bool) (c : Bool) (h : Wr 134 w B g bs) (hlen : bs.length < 1000000000) :
    Calls Tryz.prog 151 #[.pointer (some ⟨g, 0, none⟩), .int .i64 (c.toNat : Int)] w fun e w' => e = .returned (.tuple #[]) ∧ Wr 134 w' B g (bs ++ [c]) ∧ Fr B [134, 5] w w' := by
  obtain ⟨v, hblk, hrow, hB⟩ := h
  have hc0 := hblk.cell 0
  have hc1 := hblk.cell 1
  have hf0 := hblk.frozen 0
  have hsz := hblk.lt
  simp at hc0 hc1
  go_enter Tryz.func151, Tryz.ntmps151
  go_upto_if 9 with (fail)
  go_cut [] (fun wx => WrMid 134 wx B g bs c w)
  case first =>
    by_cases h8 : bs.length % 8 = 0
    · have h8' : ((bs.length : Int) % 8 == 0) = true := by simp; omega
      go_wp2_with (at_builtin; refine wpList_app del_u8 hrow (by omega) rfl rfl rfl (m := 0) rfl (by simp [Value.oneCell']) rfl ?hb ?hl ?_)
      case hb => rw [pack_length]; omega
      case hl => rw [pack_length]; unfold maxLen; omega
      intro r1 cap1 w1 ho1 hg1 _
      have hf1 := ((Fr.refl B [134, 5] w).alloc (.cells #[.int .u8 0] 5)).grown (hrow.alloc _) (Nat.le_refl _) (by simp) hg1
      have hblk1 := hblk.alloc (.cells #[.int .u8 0] 5)
      have hblk2 : Blk w1 g 134 #[v, .int .i64 bs.length] := (hg1.block g hblk1.lt (own_blk_ne' hblk (hrow.2) (by decide))).trans hblk1
      have hc01 := hblk2.cell 0
      have hf01 := hblk2.frozen 0
      simp at hc01
      clear hg1 hblk1 hblk hrow hc0 hc1 hf0
      have hblk3 := hblk2.put 0 (.slice (some ⟨r1, 0, none⟩) ((pack bs).length + 1) cap1)
      have ho3 := ((Fr.refl B [134] w1).put hblk2 hB (by simp) 0 (.slice (some ⟨r1, 0, none⟩) ((pack bs).length + 1) cap1)).owns ho1 (by simp)
      have hf3 := hf1.put hblk2 hB (by simp) 0 (.slice (some ⟨r1, 0, none⟩) ((pack bs).length + 1) cap1)
      simp at hblk3
      have HB := Lib.hid hblk3
      have HO := Lib.hid ho3
      have HF := Lib.hid hf3
      clear hblk3 ho3 hf3 ho1 hf1 hblk2
      go_wp2
      go_meet
      exact wrMid_new HB.out HO.out h8 hlen HF.out
    · have h8' : ((bs.length : Int) % 8 == 0) = false := by simp; omega
      go_wp2
      go_meet
      exact wrMid_old hblk hrow h8 hlen
  case rest =>
    obtain ⟨k, init, last, r, cap, hk, hblk, hrow, hlt, hnew, hkl, hfr0⟩ := hcut
    have hcr : wc.cell? ⟨r, k, none⟩ = some (.int .u8 (last.toNat : Int)) := by
      have := hrow.cells (g := r) rfl k _ (bcells_get (init ++ [last]) k (by simp [hk]))
      rw [Addr.add_lit] at this
      simpa [hk] using this
    have hfr : wc.frozen? ⟨r, k, none⟩ = false := hrow.frozenAt k
    have hc0 := hblk.cell 0
    have hc1 := hblk.cell 1
    simp at hc0 hc1
    have HN := Lib.hid hnew
    have HK := Lib.hid hk
    clear hnew hk
    have hk8 : k = bs.length / 8 := by
      have h := pack_length (bs ++ [c]); rw [HN.out] at h; simp at h; have := HK.out; omega
    cases c
    · clear hk8
      have hf1 := hblk.frozen 1
      go_wp2
      go_end0
      refine ⟨rfl, ⟨.slice (some ⟨r, 0, none⟩) (k + 1) cap, ?_, ?_, hB⟩, hfr0.put hblk hB (by simp) 1 _⟩
      · simpa using hblk.put 1 (.int .i64 (bs.length + 1))
      · have h := ((Fr.refl B [134] wc).put hblk hB (by simp) 1 (.int .i64 (bs.length + 1))).owns hrow (by simp)
        unfold BRow
        rw [HN.out]
        have e : bcells (init ++ [last]) = bcells (init ++ [UInt8.ofNat (last.toNat + false.toNat * 2 ^ (bs.length % 8))]) := by simp
        rw [e] at h
        have e2 : (init ++ [UInt8.ofNat (last.toNat + false.toNat * 2 ^ (bs.length % 8))]).length = k + 1 := by simp [HK.out]
        rw [e2]
        exact h
    · obtain ⟨m, hm⟩ : ∃ m, m = bs.length % 8 := ⟨_, rfl⟩
      have hm1 : (bs.length : Int).tmod 8 = (m : Int) := by rw [Int.tmod_eq_emod_of_nonneg (by omega)]; omega
      have hd1 : (bs.length : Int).tdiv 8 = (k : Int) := by rw [Int.tdiv_eq_ediv_of_nonneg (by omega)]; omega
      have hmin : min m 8 = m := by omega
      have hk2 : (k : Int) < (k : Int) + 1 := by omega
      have hw1 : IntKind.i64.wrap (k : Int) = (k : Int) := IntWalk.i64_in _ (by omega)
      obtain ⟨x, hx⟩ : ∃ x : Nat, x = 2 ^ m := ⟨_, rfl⟩
      have hadd := add_new last.toNat m (by omega) (by rw [hm]; exact hlt)
      rw [← hx] at hadd
      have HM := Lib.hid hm
      have HK8 := Lib.hid hk8
      have HX := Lib.hid hx
      clear hm hk8 hx
      go_wp2
      go_still_tail 28, (by kernel_rfl)
      clear hw1 hm1 hmin hk2 hadd hd1
      change wpList _ _ _ _ _ wc.drew
      refine wpList_plain rfl fun K hK => ?_
      go_simp
      refine hK _ _ ?_
      clear hK K
      have hne : g ≠ r := own_ne hblk hrow (by decide)
      have hblk1 := (hblk.other (p := ⟨r, k, none⟩) hne (.int .u8 (↑last.toNat + ↑x))).drew
      have hrow1 := (hrow.stored k (.int .u8 (↑last.toNat + ↑x))).1.drew
      have hfr1 := (hfr0.grown hrow (Nat.le_refl _) (by simp) (hrow.stored k (.int .u8 (↑last.toNat + ↑x))).2).drew
      clear hblk hrow hc0 hc1 hcr hfr
      generalize (wc.setCell { block := r, off := k } (Value.int IntKind.u8 (↑last.toNat + ↑x))).drew = w1 at *
      have hc1 := hblk1.cell 1
      have hf1 := hblk1.frozen 1
      simp at hc1
      go_wp2
      go_end0
      refine ⟨rfl, ⟨.slice (some ⟨r, 0, none⟩) (k + 1) cap, ?_, ?_, hB⟩, hfr1.put hblk1 hB (by simp) 1 _⟩
      · simpa using hblk1.put 1 (.int .i64 (bs.length + 1))
      · have h := ((Fr.refl B [134] w1).put hblk1 hB (by simp) 1 (.int .i64 (bs.length + 1))).owns hrow1 (by simp)
        unfold BRow
        rw [HN.out, ← HM.out]
        have e : (bcells (init ++ [last])).set k (Value.int IntKind.u8 (↑last.toNat + ↑x)) = bcells (init ++ [UInt8.ofNat (last.toNat + true.toNat * 2 ^ m)]) := by
          rw [HK.out, bcells_append, bcells_append, List.set_append_right _ _ (by simp [bcells])]
          have h1 := or_lt last.toNat m true (by have := HM.out; omega) (by rw [HM.out]; exact hlt)
          have h2 := HX.out
          rw [← h2] at h1 ⊢
          simp [bcells] at h1 ⊢
          omega
        rw [e] at h
        have e2 : (init ++ [UInt8.ofNat (last.toNat + true.toNat * 2 ^ m)]).length = k + 1 := by simp [HK.out]
        rw [e2]
        exact h
end Go.Proofs.YthbejefodelpkaaGreat
namespace Go.Proofs.YthbejefodelpkaaGreat
open Go.RowKit
set_option maxRecDepth 100000

theorem bit_of (v : Nat) (k : Nat) : ((v : Int) / 2 ^ k) % 2 = ((v.testBit k).toNat : Int) := by
  have h : ((v : Int) / 2 ^ k) % 2 = ((v / 2 ^ k % 2 : Nat) : Int) := by simp
  rw [h, Nat.testBit_eq_decide_div_mod_eq]
  have : v / 2 ^ k % 2 < 2 := Nat.mod_lt _ (by decide)
  by_cases h1 : v / 2 ^ k % 2 = 1
  · simp [h1]
  · have : v / 2 ^ k % 2 = 0 := by omega
    simp [this]

set_option maxHeartbeats 400000 in
theorem dnumber_any (w : World) (B g : Nat) (bs : List Bool) (v n : Int) (hv : 0 ≤ v) (hn0 : 0 ≤ n) (hn : n ≤ 60) (h : Wr 123 w B g bs) (hlen : bs.length < 900000000) :
    Calls Tryz.prog 118 #[.pointer (some ⟨g, 0, none⟩), .int .i64 v, .int .i64 n] w fun e w' => e = .returned (.tuple #[]) ∧ Wr 123 w' B g (bs ++ numBits v.toNat n.toNat) ∧ Fr B [123, 5] w w' := by
  obtain ⟨v, rfl⟩ := Int.eq_ofNat_of_zero_le hv
  obtain ⟨n, rfl⟩ := Int.eq_ofNat_of_zero_le hn0
  rw [Int.toNat_natCast, Int.toNat_natCast]
  go_enter Tryz.func118, Tryz.ntmps118
  go_wp2_with fail
  go_loopw [6, 8] (fun _ i wr => ∃ k : Nat, k ≤ n ∧ i = .int .i64 k ∧ Wr 123 wr B g (bs ++ numBits v k) ∧ Fr B [123, 5] w wr) (fun _ i _ => n - (intOf i).toNat)
  case atStart => exact ⟨0, Nat.zero_le _, rfl, by simpa [numBits] using h, Fr.refl _ _ _⟩
  case round =>
    obtain ⟨k, hk, rfl, hw, hf⟩ := hrel
    by_cases hlt : k < n
    · have hmin : min k 64 = k := by omega
      go_wp2_with fail
      refine (bit_any _ B g _ _ (v.testBit k) (bit_of v k) hw (by simp [numBits]; omega)).mono ?_
      rintro e w1 ⟨rfl, hw1, hf1⟩
      clear hmin
      go_wp2_with fail
      go_roundw
      case rel => exact ⟨k + 1, by omega, by go_num, by rw [numBits_succ, ← List.append_assoc]; exact hw1, hf.trans hf1⟩
      case measure => simp [intOf]; omega
    · go_wp2_with fail
      go_end0
      obtain rfl : k = n := by omega
      exact ⟨rfl, hw, hf⟩

set_option maxHeartbeats 400000 in
theorem code_any (w : World) (B g : Nat) (bs : List Bool) (v n : Int) (hv : 0 ≤ v) (hn0 : 0 ≤ n) (hn : n ≤ 60) (h : Wr 123 w B g bs) (hlen : bs.length < 900000000) :
    Calls Tryz.prog 148 #[.pointer (some ⟨g, 0, none⟩), .int .i64 v, .int .i64 n] w fun e w' => e = .returned (.tuple #[]) ∧ Wr 123 w' B g (bs ++ codeBits v.toNat n.toNat) ∧ Fr B [123, 5] w w' := by
  obtain ⟨v, rfl⟩ := Int.eq_ofNat_of_zero_le hv
  obtain ⟨n, rfl⟩ := Int.eq_ofNat_of_zero_le hn0
  rw [Int.toNat_natCast, Int.toNat_natCast]
  go_enter Tryz.func148, Tryz.ntmps148
  go_wp2_with fail
  go_loopw [6] (fun i wr => ∃ (k : Nat) (bs' : List Bool), k ≤ n ∧ i = .int .i64 ((k : Int) - 1) ∧ Wr 123 wr B g bs' ∧ Hid (bs' ++ codeBits v k = bs ++ codeBits v n) ∧ bs'.length ≤ bs.length + 60 ∧ Fr B [123, 5] w wr) (fun i _ => (intOf i + 1).toNat)
  case atStart => exact ⟨n, bs, Nat.le_refl _, rfl, h, rfl, by omega, Fr.refl _ _ _⟩
  case round =>
    obtain ⟨k, bs', hk, rfl, hw, hbs, hl, hf⟩ := hrel
    have hl2 : bs'.length + k = bs.length + n := by
      have := congrArg List.length hbs.out
      simpa [codeBits_length] using this
    by_cases hlt : 0 < k
    · obtain ⟨k, rfl⟩ : ∃ j, k = j + 1 := ⟨k - 1, by omega⟩
      have hmin : min k 64 = k := by omega
      have hcast : ((k + 1 : Nat) : Int) - 1 = (k : Int) := by omega
      rw [hcast]
      clear hcast
      go_wp2_with fail
      refine (bit_any _ B g _ _ (v.testBit k) (bit_of v k) hw (by omega)).mono ?_
      rintro e w1 ⟨rfl, hw1, hf1⟩
      clear hmin
      go_wp2_with fail
      go_roundw
      case rel =>
        refine ⟨k, _, by omega, rfl, hw1, ?_, by simp; omega, hf.trans hf1⟩
        show _ = _
        rw [← hbs.out, codeBits_succ]; simp
      case measure => simp [intOf]
    · obtain rfl : k = 0 := by omega
      go_wp2_with fail
      go_end0
      refine ⟨rfl, ?_, hf⟩
      have := hbs.out
      simp [codeBits, numBits] at this
      rw [this] at hw
      exact hw
set_option maxHeartbeats 400000 in
theorem rnumber_any (w : World) (B g : Nat) (bs : List Bool) (v n : Int) (hv : 0 ≤ v) (hn0 : 0 ≤ n) (hn : n ≤ 60) (h : Wr 134 w B g bs) (hlen : bs.length < 900000000) :
    Calls Tryz.prog 127 #[.pointer (some ⟨g, 0, none⟩), .int .i64 v, .int .i64 n] w fun e w' => e = .returned (.tuple #[]) ∧ Wr 134 w' B g (bs ++ numBits v.toNat n.toNat) ∧ Fr B [134, 5] w w' := by
  obtain ⟨v, rfl⟩ := Int.eq_ofNat_of_zero_le hv
  obtain ⟨n, rfl⟩ := Int.eq_ofNat_of_zero_le hn0
  rw [Int.toNat_natCast, Int.toNat_natCast]
  go_enter Tryz.func127, Tryz.ntmps127
  go_wp2_with fail
  go_loopw [6] (fun i wr => ∃ k : Nat, k ≤ n ∧ i = .int .i64 k ∧ Wr 134 wr B g (bs ++ numBits v k) ∧ Fr B [134, 5] w wr) (fun i _ => n - (intOf i).toNat)
  case atStart => exact ⟨0, Nat.zero_le _, rfl, by simpa [numBits] using h, Fr.refl _ _ _⟩
  case round =>
    obtain ⟨k, hk, rfl, hw, hf⟩ := hrel
    by_cases hlt : k < n
    · have hmin : min k 64 = k := by omega
      have hand : bits .and .i64 ((v : Int) / 2 ^ k) 1 = ((v.testBit k).toNat : Int) := by rw [and_one, bit_of]
      go_wp2_with fail
      refine (rbit_any _ B g _ (v.testBit k) hw (by simp [numBits]; omega)).mono ?_
      rintro e w1 ⟨rfl, hw1, hf1⟩
      clear hmin hand
      go_wp2_with fail
      go_roundw
      case rel => exact ⟨k + 1, by omega, by go_num, by rw [numBits_succ, ← List.append_assoc]; exact hw1, hf.trans hf1⟩
      case measure => simp [intOf]; omega
    · go_wp2_with fail
      go_end0
      obtain rfl : k = n := by omega
      exact ⟨rfl, hw, hf⟩

set_option maxHeartbeats 400000 in
theorem rcode_any (w : World) (B g : Nat) (bs : List Bool) (v n : Int) (hv : 0 ≤ v) (hn0 : 0 ≤ n) (hn : n ≤ 60) (h : Wr 134 w B g bs) (hlen : bs.length < 900000000) :
    Calls Tryz.prog 132 #[.pointer (some ⟨g, 0, none⟩), .int .i64 v, .int .i64 n] w fun e w' => e = .returned (.tuple #[]) ∧ Wr 134 w' B g (bs ++ codeBits v.toNat n.toNat) ∧ Fr B [134, 5] w w' := by
  obtain ⟨v, rfl⟩ := Int.eq_ofNat_of_zero_le hv
  obtain ⟨n, rfl⟩ := Int.eq_ofNat_of_zero_le hn0
  rw [Int.toNat_natCast, Int.toNat_natCast]
  go_enter Tryz.func132, Tryz.ntmps132
  go_wp2_with fail
  go_loopw [6] (fun i wr => ∃ (k : Nat) (bs' : List Bool), k ≤ n ∧ i = .int .i64 ((k : Int) - 1) ∧ Wr 134 wr B g bs' ∧ Hid (bs' ++ codeBits v k = bs ++ codeBits v n) ∧ bs'.length ≤ bs.length + 60 ∧ Fr B [134, 5] w wr) (fun i _ => (intOf i + 1).toNat)
  case atStart => exact ⟨n, bs, Nat.le_refl _, rfl, h, rfl, by omega, Fr.refl _ _ _⟩
  case round =>
    obtain ⟨k, bs', hk, rfl, hw, hbs, hl, hf⟩ := hrel
    have hl2 : bs'.length + k = bs.length + n := by
      have := congrArg List.length hbs.out
      simpa [codeBits_length] using this
    by_cases hlt : 0 < k
    · obtain ⟨k, rfl⟩ : ∃ j, k = j + 1 := ⟨k - 1, by omega⟩
      have hmin : min k 64 = k := by omega
      have hand : bits .and .i64 ((v : Int) / 2 ^ k) 1 = ((v.testBit k).toNat : Int) := by rw [and_one, bit_of]
      have hcast : ((k + 1 : Nat) : Int) - 1 = (k : Int) := by omega
      rw [hcast]
      clear hcast
      go_wp2_with fail
      refine (rbit_any _ B g _ (v.testBit k) hw (by omega)).mono ?_
      rintro e w1 ⟨rfl, hw1, hf1⟩
      clear hmin hand
      go_wp2_with fail
      go_roundw
      case rel =>
        refine ⟨k, _, by omega, rfl, hw1, ?_, by simp; omega, hf.trans hf1⟩
        show _ = _
        rw [← hbs.out, codeBits_succ]; simp
      case measure => simp [intOf]
    · obtain rfl : k = 0 := by omega
      go_wp2_with fail
      go_end0
      refine ⟨rfl, ?_, hf⟩
      have := hbs.out
      simp [codeBits, numBits] at this
      rw [this] at hw
      exact hw
end Go.Proofs.YthbejefodelpkaaGreat
namespace Go.Proofs.YthbejefodelpkaaGreat

def at8 (s : List UInt8) (i : Nat) : UInt8 := s.getD i 0

/-- How many bytes from p on are those from q on, from the n-th on, at most f more. -/
def cmGo (s : List UInt8) (p q : Nat) : Nat → Nat → Nat
  | 0, n => n
  | f + 1, n => if at8 s (q + n) = at8 s (p + n) then cmGo s p q f (n + 1) else n
def most (s : List UInt8) (p : Nat) : Nat := min 258 (s.length - p)
def cm (s : List UInt8) (p q : Nat) : Nat := cmGo s p q (most s p) 0

theorem cmGo_le (s : List UInt8) (p q f n : Nat) : cmGo s p q f n ≤ n + f := by
  induction f generalizing n with
  | zero => simp [cmGo]
  | succ f ih =>
    unfold cmGo
    split
    · have := ih (n + 1); omega
    · omega
theorem cmGo_ge (s : List UInt8) (p q f n : Nat) : n ≤ cmGo s p q f n := by
  induction f generalizing n with
  | zero => simp [cmGo]
  | succ f ih =>
    unfold cmGo
    split
    · have := ih (n + 1); omega
    · omega
theorem cmGo_eq (s : List UInt8) (p q f n i : Nat) (h0 : n ≤ i) (h : i < cmGo s p q f n) : at8 s (q + i) = at8 s (p + i) := by
  induction f generalizing n with
  | zero => simp [cmGo] at h; omega
  | succ f ih =>
    unfold cmGo at h
    split at h
    · rename_i e
      by_cases hi : i = n
      · subst hi; exact e
      · exact ih (n + 1) (by omega) h
    · omega
theorem cm_le (s : List UInt8) (p q : Nat) : cm s p q ≤ most s p := by
  have := cmGo_le s p q (most s p) 0; unfold cm; omega
theorem cm_eq (s : List UInt8) (p q i : Nat) (h : i < cm s p q) : at8 s (q + i) = at8 s (p + i) := cmGo_eq s p q _ 0 i (Nat.zero_le _) h

/-- The best match among the distances from 1 to k. -/
def mtGo (s : List UInt8) (p : Nat) : Nat → Nat × Nat
  | 0 => (0, 0)
  | k + 1 => if (mtGo s p k).1 < cm s p (p - (k + 1)) then (cm s p (p - (k + 1)), k + 1) else mtGo s p k
def norm3 (x : Nat × Nat) : Nat × Nat := if x.1 < 3 then (0, 0) else x
/-- The length and the distance of the token at p; zeros for a byte. -/
def matchP (s : List UInt8) (p : Nat) : Nat × Nat := norm3 (mtGo s p (min p 4096))

theorem norm3_aux (n a : Nat) (x : Nat × Nat) : norm3 (if x.1 < n then (n, a) else x) = if 3 ≤ n ∧ (norm3 x).1 < n then (n, a) else norm3 x := by
  unfold norm3
  by_cases h1 : x.1 < n <;> by_cases h2 : x.1 < 3 <;> by_cases h3 : n < 3 <;> simp [h1, h2, h3] <;> omega
theorem norm3_step (s : List UInt8) (p k : Nat) : norm3 (mtGo s p (k + 1)) =
    if 3 ≤ cm s p (p - (k + 1)) ∧ (norm3 (mtGo s p k)).1 < cm s p (p - (k + 1)) then (cm s p (p - (k + 1)), k + 1) else norm3 (mtGo s p k) := norm3_aux _ _ _

theorem norm3_skip (s : List UInt8) (p k j : Nat) (h : ∀ d, k < d → d ≤ k + j → cm s p (p - d) < 3) : norm3 (mtGo s p (k + j)) = norm3 (mtGo s p k) := by
  induction j with
  | zero => rfl
  | succ j ih =>
    have h1 := h (k + (j + 1)) (by omega) (Nat.le_refl _)
    rw [← Nat.add_assoc, norm3_step, if_neg (by rw [Nat.add_assoc]; omega)]
    exact ih fun d hd hd' => h d hd (by omega)

theorem mtGo_full (s : List UInt8) (p k j : Nat) (h : (norm3 (mtGo s p k)).1 = most s p) : norm3 (mtGo s p (k + j)) = norm3 (mtGo s p k) := by
  induction j with
  | zero => rfl
  | succ j ih =>
    have h1 := cm_le s p (p - (k + j + 1))
    rw [← Nat.add_assoc, norm3_step, if_neg (by rw [ih, h]; omega)]
    exact ih

theorem mtGo_bound (s : List UInt8) (p k : Nat) : (mtGo s p k).1 ≤ most s p ∧ (mtGo s p k).2 ≤ k ∧ (0 < (mtGo s p k).1 → 0 < (mtGo s p k).2 ∧ (mtGo s p k).1 = cm s p (p - (mtGo s p k).2)) := by
  induction k with
  | zero => simp [mtGo]
  | succ k ih =>
    unfold mtGo
    split
    · exact ⟨cm_le _ _ _, Nat.le_refl _, fun _ => ⟨by simp, rfl⟩⟩
    · exact ⟨ih.1, by omega, ih.2.2⟩

theorem matchP_ok (s : List UInt8) (p : Nat) (h : (matchP s p).1 ≠ 0) : 3 ≤ (matchP s p).1 ∧ (matchP s p).1 ≤ 258 ∧ p + (matchP s p).1 ≤ s.length ∧ 1 ≤ (matchP s p).2 ∧ (matchP s p).2 ≤ 4096 ∧ (matchP s p).2 ≤ p ∧
    ∀ i, i < (matchP s p).1 → at8 s (p - (matchP s p).2 + i) = at8 s (p + i) := by
  have hb := mtGo_bound s p (min p 4096)
  unfold matchP norm3 at h ⊢
  split at h
  · simp at h
  · rename_i h3
    rw [if_neg h3]
    have h4 := hb.2.2 (by omega)
    have h5 := hb.1
    unfold most at h5
    refine ⟨by omega, by omega, by omega, h4.1, by omega, by omega, fun i hi => cm_eq s p _ i (by rw [← h4.2]; exact hi)⟩

/-- The hash of three bytes. -/
def hash3 (s : List UInt8) (p : Nat) : Nat := ((at8 s p).toNat * 1024 ^^^ (at8 s (p + 1)).toNat * 32 ^^^ (at8 s (p + 2)).toNat) % 32768

theorem cm_hash (s : List UInt8) (p q : Nat) (h : 3 ≤ cm s p q) : hash3 s q = hash3 s p := by
  have h0 := cm_eq s p q 0 (by omega)
  have h1 := cm_eq s p q 1 (by omega)
  have h2 := cm_eq s p q 2 (by omega)
  simp only [Nat.add_zero] at h0
  unfold hash3
  rw [h0, h1, h2]

/-- One more than the last place before p with the hash h, or 0. -/
def headP (s : List UInt8) : Nat → Nat → Nat
  | 0, _ => 0
  | p + 1, h => if p + 3 ≤ s.length ∧ hash3 s p = h then p + 1 else headP s p h

theorem headP_le (s : List UInt8) (p h : Nat) : headP s p h ≤ p := by
  induction p with
  | zero => simp [headP]
  | succ p ih => unfold headP; split <;> omega
theorem headP_gap (s : List UInt8) (p h q : Nat) (h0 : headP s p h ≤ q) (h1 : q < p) (h3 : q + 3 ≤ s.length) : hash3 s q ≠ h := by
  induction p with
  | zero => omega
  | succ p ih =>
    unfold headP at h0
    split at h0
    · omega
    · rename_i hn
      by_cases e : q = p
      · subst e; intro hh; exact hn ⟨h3, hh⟩
      · exact ih h0 (by omega)
theorem headP_short (s : List UInt8) (p h : Nat) (hp : ¬ p + 3 ≤ s.length) : headP s (p + 1) h = headP s p h := by
  conv => lhs; unfold headP
  rw [if_neg (fun hh => hp hh.1)]

/-- The step of the search: from the place q0 (all distances up to p - q0 are done) to the next one of the chain. -/
theorem chain_step (s : List UInt8) (p q0 : Nat) (hq : q0 ≤ p) (hp : p + 3 ≤ s.length) :
    norm3 (mtGo s p (min (p - headP s q0 (hash3 s p)) 4096)) = norm3 (mtGo s p (min (p - q0) 4096)) := by
  have hle := headP_le s q0 (hash3 s p)
  have e : min (p - headP s q0 (hash3 s p)) 4096 = min (p - q0) 4096 + (min (p - headP s q0 (hash3 s p)) 4096 - min (p - q0) 4096) := by omega
  rw [e]
  refine norm3_skip s p _ _ fun d hd hd' => ?_
  have hgap := headP_gap s q0 (hash3 s p) (p - d) (by omega) (by omega) (by omega)
  rcases Nat.lt_or_ge (cm s p (p - d)) 3 with h | h
  · exact h
  · exact absurd (cm_hash s p (p - d) h) hgap

theorem headP_hash (s : List UInt8) (p h : Nat) (h0 : 0 < headP s p h) : hash3 s (headP s p h - 1) = h := by
  induction p with
  | zero => simp [headP] at h0
  | succ p ih =>
    unfold headP at h0 ⊢
    split
    · rename_i hc; simpa using hc.2
    · rename_i hc; rw [if_neg hc] at h0; exact ih h0
theorem matchP_short (s : List UInt8) (p : Nat) (h : most s p < 3) : matchP s p = (0, 0) := by
  have := (mtGo_bound s p (min p 4096)).1
  unfold matchP norm3
  rw [if_pos (by omega)]
theorem chain_start (s : List UInt8) (p : Nat) (hp : p + 3 ≤ s.length) : norm3 (mtGo s p (min (p - headP s p (hash3 s p)) 4096)) = (0, 0) := by
  rw [chain_step s p p (Nat.le_refl _) hp]
  simp [mtGo, norm3]
/-- The place q = q1 - 1 is tried: the new best. -/
theorem chain_try (s : List UInt8) (p q1 a b : Nat) (h1 : 0 < q1) (h2 : q1 ≤ p) (hd : p - (q1 - 1) ≤ 4096) (h : (a, b) = norm3 (mtGo s p (min (p - q1) 4096))) :
    norm3 (mtGo s p (min (p - (q1 - 1)) 4096)) = if 3 ≤ cm s p (q1 - 1) ∧ a < cm s p (q1 - 1) then (cm s p (q1 - 1), p - (q1 - 1)) else (a, b) := by
  have e1 : min (p - (q1 - 1)) 4096 = (p - q1) + 1 := by omega
  have e2 : min (p - q1) 4096 = p - q1 := by omega
  have e3 : p - (p - q1 + 1) = q1 - 1 := by omega
  have e4 : p - q1 + 1 = p - (q1 - 1) := by omega
  rw [e2] at h
  rw [e1, norm3_step, e3, ← h, e4]
theorem match_end (s : List UInt8) (p q1 : Nat) (h : q1 = 0 ∨ 4096 < p - (q1 - 1)) (_hq : q1 ≤ p) : norm3 (mtGo s p (min (p - q1) 4096)) = matchP s p := by
  unfold matchP
  congr 2
  omega
theorem match_full (s : List UInt8) (p k a b : Nat) (hk : k ≤ p) (h : (a, b) = norm3 (mtGo s p (min k 4096))) (ha : a = most s p) : (a, b) = matchP s p := by
  have e : min p 4096 = min k 4096 + (min p 4096 - min k 4096) := by omega
  unfold matchP
  rw [e, mtGo_full s p _ _ (by rw [← h]; exact ha)]
  exact h

theorem cmGo_yes (s : List UInt8) (p q M k : Nat) (hk : k < M) (h : at8 s (q + k) = at8 s (p + k)) : cmGo s p q (M - (k + 1)) (k + 1) = cmGo s p q (M - k) k := by
  have e : M - k = (M - (k + 1)) + 1 := by omega
  rw [e]
  conv => rhs; unfold cmGo
  rw [if_pos h]
theorem cmGo_no (s : List UInt8) (p q M k : Nat) (hk : k < M) (h : ¬ at8 s (q + k) = at8 s (p + k)) : cmGo s p q (M - k) k = k := by
  have e : M - k = (M - (k + 1)) + 1 := by omega
  rw [e]
  unfold cmGo
  rw [if_neg h]

end Go.Proofs.YthbejefodelpkaaGreat
namespace Go.Proofs.YthbejefodelpkaaGreat

def lenGo : Nat → Nat → Nat → Nat → Nat → Nat × Nat × Nat
  | 0, s, b, e, _ => (s, b, e)
  | f + 1, s, b, e, n => if b + 2 ^ e ≤ n then lenGo f (s + 1) (b + 2 ^ e) (if 265 ≤ s + 1 then (s + 1 - 261) / 4 else e) n else (s, b, e)
/-- The symbol of a length, its base and its extra bits. -/
def lenSym (n : Nat) : Nat × Nat × Nat := if n = 258 then (285, 258, 0) else lenGo 27 257 3 0 n

def distGo : Nat → Nat → Nat → Nat → Nat → Nat × Nat × Nat
  | 0, s, b, e, _ => (s, b, e)
  | f + 1, s, b, e, n => if b + 2 ^ e ≤ n then distGo f (s + 1) (b + 2 ^ e) (if 4 ≤ s + 1 then (s + 1 - 2) / 2 else e) n else (s, b, e)
/-- The symbol of a distance, its base and its extra bits. -/
def distSym (d : Nat) : Nat × Nat × Nat := distGo 29 0 1 0 d

/-- The code of a byte or symbol. -/
def symBits (v : Nat) : List Bool :=
  if v < 144 then codeBits (48 + v) 8 else if v < 256 then codeBits (400 + v - 144) 9 else if v < 280 then codeBits (v - 256) 7 else codeBits (192 + v - 280) 8

/-- The bits of a match. -/
def matchBits (n d : Nat) : List Bool :=
  symBits (lenSym n).1 ++ numBits (n - (lenSym n).2.1) (lenSym n).2.2 ++ codeBits (distSym d).1 5 ++ numBits (d - (distSym d).2.1) (distSym d).2.2

def dext (s : Nat) : Nat := if 4 ≤ s then (s - 2) / 2 else 0
def dbase : Nat → Nat
  | 0 => 1
  | s + 1 => dbase s + 2 ^ dext s
theorem dbase_lt (s : Nat) (h : dbase s ≤ 4096) : s < 24 := by
  have mono : ∀ a b, a ≤ b → dbase a ≤ dbase b := by
    intro a b hab
    induction hab with
    | refl => exact Nat.le_refl _
    | step _ ih => exact Nat.le_trans ih (by simp [dbase])
  rcases Nat.lt_or_ge s 24 with h1 | h1
  · exact h1
  · have := mono 24 s h1
    have h24 : dbase 24 = 4097 := by decide
    omega

theorem lenSym_ok (n : Nat) (h0 : 3 ≤ n) (h1 : n ≤ 258) : 257 ≤ (lenSym n).1 ∧ (lenSym n).1 < 286 ∧ (lenSym n).2.1 ≤ n ∧ n < (lenSym n).2.1 + 2 ^ (lenSym n).2.2 ∧ (lenSym n).2.2 ≤ 5 := by
  have key : ∀ n : Fin 259, 3 ≤ n.val → 257 ≤ (lenSym n.val).1 ∧ (lenSym n.val).1 < 286 ∧ (lenSym n.val).2.1 ≤ n.val ∧ n.val < (lenSym n.val).2.1 + 2 ^ (lenSym n.val).2.2 ∧ (lenSym n.val).2.2 ≤ 5 := by decide +kernel
  exact key ⟨n, by omega⟩ h0
theorem distSym_ok (n : Nat) (h0 : 1 ≤ n) (h1 : n ≤ 4096) : (distSym n).1 < 24 ∧ (distSym n).2.1 ≤ n ∧ n < (distSym n).2.1 + 2 ^ (distSym n).2.2 ∧ (distSym n).2.2 ≤ 10 := by
  have key : ∀ a : Fin 65, ∀ b : Fin 64, 1 ≤ 64 * a.val + b.val → 64 * a.val + b.val ≤ 4096 → (distSym (64 * a.val + b.val)).1 < 24 ∧ (distSym (64 * a.val + b.val)).2.1 ≤ 64 * a.val + b.val ∧ 64 * a.val + b.val < (distSym (64 * a.val + b.val)).2.1 + 2 ^ (distSym (64 * a.val + b.val)).2.2 ∧ (distSym (64 * a.val + b.val)).2.2 ≤ 10 := by decide +kernel
  have h := key ⟨n / 64, by omega⟩ ⟨n % 64, by omega⟩
  have e : 64 * (n / 64) + n % 64 = n := by omega
  simp only [e] at h
  exact h h0 h1
theorem symBits_length (v : Nat) : (symBits v).length ≤ 9 := by
  unfold symBits
  split
  · simp [codeBits_length]
  · split
    · simp [codeBits_length]
    · split <;> simp [codeBits_length]
theorem matchBits_length (n d : Nat) (h0 : 3 ≤ n) (h1 : n ≤ 258) (h2 : 1 ≤ d) (h3 : d ≤ 4096) : (matchBits n d).length ≤ 29 := by
  have a := symBits_length (lenSym n).1
  have b := (lenSym_ok n h0 h1).2.2.2.2
  have c := (distSym_ok d h2 h3).2.2.2
  simp only [matchBits, List.length_append, numBits_length, codeBits_length]
  omega

/-- The token at p: its bits and how many bytes it stands for. -/
def tok (l : List UInt8) (p : Nat) : List Bool × Nat :=
  if (matchP l p).1 = 0 then (symBits (at8 l p).toNat, 1) else (matchBits (matchP l p).1 (matchP l p).2, (matchP l p).1)
def fixedGo (l : List UInt8) : Nat → Nat → List Bool
  | 0, _ => []
  | f + 1, p => if p < l.length then (tok l p).1 ++ fixedGo l f (p + (tok l p).2) else []
/-- The bits of the block with fixed codes. -/
def fixedBits (l : List UInt8) : List Bool := numBits 1 1 ++ numBits 1 2 ++ fixedGo l l.length 0 ++ symBits 256
def fixed (l : List UInt8) : List UInt8 := pack (fixedBits l)

theorem tok_pos (l : List UInt8) (p : Nat) (hp : p < l.length) : 1 ≤ (tok l p).2 ∧ p + (tok l p).2 ≤ l.length := by
  unfold tok
  split
  · simp; omega
  · rename_i h
    have := matchP_ok l p h
    simp only; omega
theorem tok_bits (l : List UInt8) (p : Nat) : (tok l p).1.length ≤ 29 := by
  unfold tok
  split
  · have := symBits_length (at8 l p).toNat; simp only; omega
  · rename_i h
    have hm := matchP_ok l p h
    exact matchBits_length _ _ (by omega) (by omega) (by omega) (by omega)
theorem fixedGo_fuel (l : List UInt8) (f p : Nat) (h : l.length - p ≤ f) : fixedGo l f p = fixedGo l (l.length - p) p := by
  induction hn : l.length - p using Nat.strongRecOn generalizing f p with
  | _ n ih =>
    subst hn
    by_cases hp : p < l.length
    · obtain ⟨f, rfl⟩ : ∃ g, f = g + 1 := ⟨f - 1, by omega⟩
      obtain ⟨k, hk⟩ : ∃ k, l.length - p = k + 1 := ⟨l.length - p - 1, by omega⟩
      have ht := tok_pos l p hp
      rw [hk]
      simp only [fixedGo, if_pos hp]
      rw [ih (l.length - (p + (tok l p).2)) (by omega) f _ (by omega) rfl, ih (l.length - (p + (tok l p).2)) (by omega) k _ (by omega) rfl]
    · have e : l.length - p = 0 := by omega
      rw [e]
      cases f with
      | zero => rfl
      | succ f => simp [fixedGo, hp]
theorem fixedGo_step (l : List UInt8) (p : Nat) (hp : p < l.length) : fixedGo l (l.length - p) p = (tok l p).1 ++ fixedGo l (l.length - (p + (tok l p).2)) (p + (tok l p).2) := by
  obtain ⟨k, hk⟩ : ∃ k, l.length - p = k + 1 := ⟨l.length - p - 1, by omega⟩
  have ht := tok_pos l p hp
  rw [hk]
  simp only [fixedGo, if_pos hp]
  rw [fixedGo_fuel l k _ (by omega)]
theorem fixedGo_end (l : List UInt8) (p : Nat) (hp : l.length ≤ p) : fixedGo l (l.length - p) p = [] := by
  have e : l.length - p = 0 := by omega
  rw [e]; rfl

end Go.Proofs.YthbejefodelpkaaGreat
namespace Go.Proofs.YthbejefodelpkaaGreat
open Go.RowKit
set_option maxRecDepth 100000

theorem pow_i64 (e : Nat) (h : e ≤ 60) : wrap64 (2 ^ e) = ((2 ^ e : Nat) : Int) := by
  have h2 : (2 : Int) ^ e = ((2 ^ e : Nat) : Int) := by simp
  have h3 : 2 ^ e ≤ 2 ^ 60 := Nat.pow_le_pow_right (by omega) h
  rw [h2]
  generalize 2 ^ e = y at *
  unfold wrap64
  omega

set_option maxRecDepth 100000 in
set_option maxHeartbeats 1000000 in
theorem lenSym_any (n : Nat) (w : World) (hn : n ≤ 258) :
    Calls Tryz.prog 149 #[.int .i64 n] w fun e w' => e = .returned (.tuple #[.int .i64 (lenSym n).1, .int .i64 (lenSym n).2.1, .int .i64 (lenSym n).2.2]) ∧ w = w' := by
  by_cases h258 : n = 258
  · subst h258
    go_enter Tryz.func149, Tryz.ntmps149
    go_wp2
    go_ret3
    exact ⟨rfl, rfl⟩
  · have hne : ((n : Int) == 258) = false := by simp; omega
    have e0 : lenSym n = lenGo 27 257 3 0 n := by simp [lenSym, h258]
    rw [e0]
    go_enter Tryz.func149, Tryz.ntmps149
    go_wp2
    go_loop [2, 3, 4] (fun s b e => ∃ (f : Nat) (sn bn en : Nat), s = .int .i64 sn ∧ b = .int .i64 bn ∧ e = .int .i64 en ∧ sn + f = 284 ∧ 257 ≤ sn ∧ bn ≤ 258 ∧ en ≤ 5 ∧ Hid (lenGo f sn bn en n = lenGo 27 257 3 0 n)) (fun s _ _ => 284 - (intOf s).toNat)
    case atStart => exact ⟨27, 257, 3, 0, rfl, rfl, rfl, rfl, by omega, by omega, by omega, rfl⟩
    case round =>
      obtain ⟨f, sn, bn, en, rfl, rfl, rfl, hf, hs0, hb, he, hg⟩ := hrel
      obtain ⟨x, hx⟩ : ∃ x, x = 2 ^ en := ⟨_, rfl⟩
      have hp := pow_i64 en (by omega)
      have hxl : x ≤ 32 := by
        have : 2 ^ en ≤ 2 ^ 5 := Nat.pow_le_pow_right (by omega) he
        omega
      rw [← hx] at hp
      have HX := Lib.hid hx
      clear hx
      by_cases hs : sn < 284
      · obtain ⟨f, rfl⟩ : ∃ j, f = j + 1 := ⟨f - 1, by omega⟩
        by_cases hc : bn + x ≤ n
        · by_cases h5 : 265 ≤ sn + 1
          · go_wp2
            go_round
            case rel =>
              refine ⟨f, sn + 1, bn + x, (sn + 1 - 261) / 4, by go_num, by go_num, by go_num, by omega, by omega, by omega, by omega, ?_⟩
              show _ = _
              rw [← hg.out, lenGo, ← HX.out, if_pos hc, if_pos h5]
            case measure => simp [intOf]; omega
          · go_wp2
            go_round
            case rel =>
              refine ⟨f, sn + 1, bn + x, en, by go_num, by go_num, by go_num, by omega, by omega, by omega, by omega, ?_⟩
              show _ = _
              rw [← hg.out, lenGo, ← HX.out, if_pos hc, if_neg h5]
            case measure => simp [intOf]; omega
        · go_wp2
          go_ret3
          have : lenGo 27 257 3 0 n = (sn, bn, en) := by rw [← hg.out, lenGo, ← HX.out, if_neg hc]
          rw [this]
          exact ⟨rfl, rfl⟩
      · obtain rfl : f = 0 := by omega
        have hd : decide ((sn : Int) < 284) = false := by simp; omega
        go_wp2
        go_ret3
        have : lenGo 27 257 3 0 n = (sn, bn, en) := by rw [← hg.out, lenGo]
        rw [this]
        exact ⟨rfl, rfl⟩
set_option maxRecDepth 100000 in
set_option maxHeartbeats 1000000 in
theorem rlenSym_any (n : Nat) (w : World) (hn : n ≤ 258) :
    Calls Tryz.prog 130 #[.int .i64 n] w fun e w' => e = .returned (.tuple #[.int .i64 (lenSym n).1, .int .i64 (lenSym n).2.1, .int .i64 (lenSym n).2.2]) ∧ w = w' := by
  by_cases h258 : n = 258
  · subst h258
    go_enter Tryz.func130, Tryz.ntmps130
    go_wp2
    go_ret3
    exact ⟨rfl, rfl⟩
  · have hne : ((n : Int) == 258) = false := by simp; omega
    have e0 : lenSym n = lenGo 27 257 3 0 n := by simp [lenSym, h258]
    rw [e0]
    go_enter Tryz.func130, Tryz.ntmps130
    go_wp2
    go_loop [5, 6, 7] (fun s b e => ∃ (f : Nat) (sn bn en : Nat), s = .int .i64 sn ∧ b = .int .i64 bn ∧ e = .int .i64 en ∧ sn + f = 284 ∧ 257 ≤ sn ∧ bn ≤ 258 ∧ en ≤ 5 ∧ Hid (lenGo f sn bn en n = lenGo 27 257 3 0 n)) (fun s _ _ => 284 - (intOf s).toNat)
    case atStart => exact ⟨27, 257, 3, 0, rfl, rfl, rfl, rfl, by omega, by omega, by omega, rfl⟩
    case round =>
      obtain ⟨f, sn, bn, en, rfl, rfl, rfl, hf, hs0, hb, he, hg⟩ := hrel
      obtain ⟨x, hx⟩ : ∃ x, x = 2 ^ en := ⟨_, rfl⟩
      have hp := pow_i64 en (by omega)
      have hxl : x ≤ 32 := by
        have : 2 ^ en ≤ 2 ^ 5 := Nat.pow_le_pow_right (by omega) he
        omega
      rw [← hx] at hp
      have HX := Lib.hid hx
      clear hx
      by_cases hs : sn < 284
      · obtain ⟨f, rfl⟩ : ∃ j, f = j + 1 := ⟨f - 1, by omega⟩
        by_cases hc : bn + x ≤ n
        · by_cases h5 : 265 ≤ sn + 1
          · go_wp2
            go_round
            case rel =>
              refine ⟨f, sn + 1, bn + x, (sn + 1 - 261) / 4, by go_num, by go_num, by go_num, by omega, by omega, by omega, by omega, ?_⟩
              show _ = _
              rw [← hg.out, lenGo, ← HX.out, if_pos hc, if_pos h5]
            case measure => simp [intOf]; omega
          · go_wp2
            go_round
            case rel =>
              refine ⟨f, sn + 1, bn + x, en, by go_num, by go_num, by go_num, by omega, by omega, by omega, by omega, ?_⟩
              show _ = _
              rw [← hg.out, lenGo, ← HX.out, if_pos hc, if_neg h5]
            case measure => simp [intOf]; omega
        · go_wp2
          go_ret3
          have : lenGo 27 257 3 0 n = (sn, bn, en) := by rw [← hg.out, lenGo, ← HX.out, if_neg hc]
          rw [this]
          exact ⟨rfl, rfl⟩
      · obtain rfl : f = 0 := by omega
        have hd : decide ((sn : Int) < 284) = false := by simp; omega
        go_wp2
        go_ret3
        have : lenGo 27 257 3 0 n = (sn, bn, en) := by rw [← hg.out, lenGo]
        rw [this]
        exact ⟨rfl, rfl⟩
set_option maxRecDepth 100000 in
set_option maxHeartbeats 1000000 in
theorem distSym_any (n : Nat) (w : World) (hn0 : 1 ≤ n) (hn : n ≤ 4096) :
    Calls Tryz.prog 150 #[.int .i64 n] w fun e w' => e = .returned (.tuple #[.int .i64 (distSym n).1, .int .i64 (distSym n).2.1, .int .i64 (distSym n).2.2]) ∧ w = w' := by
  go_enter Tryz.func150, Tryz.ntmps150
  go_wp2
  go_loop [2, 3, 4] (fun s b e => ∃ (sn bn en : Nat), s = .int .i64 sn ∧ b = .int .i64 bn ∧ e = .int .i64 en ∧ Hid (bn = dbase sn ∧ en = dext sn) ∧ bn ≤ n ∧ sn ≤ 29 ∧ Hid (distGo (29 - sn) sn bn en n = distSym n)) (fun s _ _ => 29 - (intOf s).toNat)
  case atStart => exact ⟨0, 1, 0, rfl, rfl, rfl, ⟨rfl, rfl⟩, by omega, by omega, rfl⟩
  case round =>
    obtain ⟨sn, bn, en, rfl, rfl, rfl, hd, hb, hs0, hg⟩ := hrel
    have hs : sn < 24 := dbase_lt sn (by rw [← hd.out.1]; omega)
    have he : en ≤ 10 := by rw [hd.out.2]; unfold dext; split <;> omega
    obtain ⟨x, hx⟩ : ∃ x, x = 2 ^ en := ⟨_, rfl⟩
    have hp := pow_i64 en (by omega)
    have hxl : x ≤ 1024 := by
      have : 2 ^ en ≤ 2 ^ 10 := Nat.pow_le_pow_right (by omega) he
      omega
    rw [← hx] at hp
    have HX := Lib.hid hx
    clear hx
    have ef : 29 - sn = (28 - sn) + 1 := by omega
    have EF := Lib.hid ef
    clear ef
    by_cases hc : bn + x ≤ n
    · by_cases h5 : 4 ≤ sn + 1
      · go_wp2
        go_round
        case rel =>
          refine ⟨sn + 1, bn + x, (sn + 1 - 2) / 2, by go_num, by go_num, by go_num, ⟨?_, ?_⟩, by omega, by omega, ?_⟩
          · rw [HX.out, dbase, ← hd.out.1, ← hd.out.2]
          · rw [dext, if_pos h5]
          · show _ = _
            rw [← hg.out, EF.out, distGo, ← HX.out, if_pos hc, if_pos h5]
            congr 1; omega
        case measure => simp [intOf]; omega
      · go_wp2
        go_round
        case rel =>
          refine ⟨sn + 1, bn + x, en, by go_num, by go_num, by go_num, ⟨?_, ?_⟩, by omega, by omega, ?_⟩
          · rw [HX.out, dbase, ← hd.out.1, ← hd.out.2]
          · rw [hd.out.2, dext, dext, if_neg h5, if_neg (by omega)]
          · show _ = _
            rw [← hg.out, EF.out, distGo, ← HX.out, if_pos hc, if_neg h5]
            congr 1; omega
        case measure => simp [intOf]; omega
    · go_wp2
      go_ret3
      have : distSym n = (sn, bn, en) := by rw [← hg.out, EF.out, distGo, ← HX.out, if_neg hc]
      rw [this]
      exact ⟨rfl, rfl⟩

set_option maxRecDepth 100000 in
set_option maxHeartbeats 1000000 in
theorem rdistSym_any (n : Nat) (w : World) (hn0 : 1 ≤ n) (hn : n ≤ 4096) :
    Calls Tryz.prog 131 #[.int .i64 n] w fun e w' => e = .returned (.tuple #[.int .i64 (distSym n).1, .int .i64 (distSym n).2.1, .int .i64 (distSym n).2.2]) ∧ w = w' := by
  go_enter Tryz.func131, Tryz.ntmps131
  go_wp2
  go_loop [5, 6, 7] (fun s b e => ∃ (sn bn en : Nat), s = .int .i64 sn ∧ b = .int .i64 bn ∧ e = .int .i64 en ∧ Hid (bn = dbase sn ∧ en = dext sn) ∧ bn ≤ n ∧ sn ≤ 29 ∧ Hid (distGo (29 - sn) sn bn en n = distSym n)) (fun s _ _ => 29 - (intOf s).toNat)
  case atStart => exact ⟨0, 1, 0, rfl, rfl, rfl, ⟨rfl, rfl⟩, by omega, by omega, rfl⟩
  case round =>
    obtain ⟨sn, bn, en, rfl, rfl, rfl, hd, hb, hs0, hg⟩ := hrel
    have hs : sn < 24 := dbase_lt sn (by rw [← hd.out.1]; omega)
    have he : en ≤ 10 := by rw [hd.out.2]; unfold dext; split <;> omega
    obtain ⟨x, hx⟩ : ∃ x, x = 2 ^ en := ⟨_, rfl⟩
    have hp := pow_i64 en (by omega)
    have hxl : x ≤ 1024 := by
      have : 2 ^ en ≤ 2 ^ 10 := Nat.pow_le_pow_right (by omega) he
      omega
    rw [← hx] at hp
    have HX := Lib.hid hx
    clear hx
    have ef : 29 - sn = (28 - sn) + 1 := by omega
    have EF := Lib.hid ef
    clear ef
    by_cases hc : bn + x ≤ n
    · by_cases h5 : 4 ≤ sn + 1
      · go_wp2
        go_round
        case rel =>
          refine ⟨sn + 1, bn + x, (sn + 1 - 2) / 2, by go_num, by go_num, by go_num, ⟨?_, ?_⟩, by omega, by omega, ?_⟩
          · rw [HX.out, dbase, ← hd.out.1, ← hd.out.2]
          · rw [dext, if_pos h5]
          · show _ = _
            rw [← hg.out, EF.out, distGo, ← HX.out, if_pos hc, if_pos h5]
            congr 1; omega
        case measure => simp [intOf]; omega
      · go_wp2
        go_round
        case rel =>
          refine ⟨sn + 1, bn + x, en, by go_num, by go_num, by go_num, ⟨?_, ?_⟩, by omega, by omega, ?_⟩
          · rw [HX.out, dbase, ← hd.out.1, ← hd.out.2]
          · rw [hd.out.2, dext, dext, if_neg h5, if_neg (by omega)]
          · show _ = _
            rw [← hg.out, EF.out, distGo, ← HX.out, if_pos hc, if_neg h5]
            congr 1; omega
        case measure => simp [intOf]; omega
    · go_wp2
      go_ret3
      have : distSym n = (sn, bn, en) := by rw [← hg.out, EF.out, distGo, ← HX.out, if_neg hc]
      rw [this]
      exact ⟨rfl, rfl⟩

def symPost (T : TypeId) (B g : Nat) (bs : List Bool) (v : Nat) (w : World) (e : Ending) (w' : World) : Prop :=
  e = .returned (.tuple #[]) ∧ Wr T w' B g (bs ++ symBits v) ∧ Fr B [T, 5] w w'

set_option maxRecDepth 100000 in
set_option maxHeartbeats 1000000 in
theorem dsymbol_any (w : World) (B g : Nat) (bs : List Bool) (v : Int) (hv : 0 ≤ v) (hv2 : v < 288) (h : Wr 123 w B g bs) (hlen : bs.length < 900000000) :
    Calls Tryz.prog 121 #[.pointer (some ⟨g, 0, none⟩), .int .i64 v] w (symPost 123 B g bs v.toNat w) := by
  obtain ⟨v, rfl⟩ := Int.eq_ofNat_of_zero_le hv
  rw [Int.toNat_natCast]
  by_cases h1 : v < 144
  · have HS : Hid (symBits v = codeBits (48 + v) 8) := by show _ = _; rw [symBits, if_pos h1]
    go_enter Tryz.func121, Tryz.ntmps121
    go_wp2_with fail
    refine (code_any _ B g bs _ _ (by omega) (by omega) (by omega) h hlen).mono ?_
    rintro e w1 ⟨rfl, hw1, hf1⟩
    go_wp2_with fail
    go_end0
    refine ⟨rfl, ?_, hf1⟩
    rw [HS.out]
    have e1 : ((48 : Int) + (v : Int)).toNat = 48 + v := by omega
    rw [e1] at hw1
    exact hw1
  by_cases h2 : v < 256
  · have HS : Hid (symBits v = codeBits (400 + v - 144) 9) := by show _ = _; rw [symBits, if_neg h1, if_pos h2]
    go_enter Tryz.func121, Tryz.ntmps121
    go_wp2_with fail
    refine (code_any _ B g bs _ _ (by omega) (by omega) (by omega) h hlen).mono ?_
    rintro e w1 ⟨rfl, hw1, hf1⟩
    go_wp2_with fail
    go_end0
    refine ⟨rfl, ?_, hf1⟩
    rw [HS.out]
    have e1 : ((400 : Int) + (v : Int) - 144).toNat = 400 + v - 144 := by omega
    rw [e1] at hw1
    exact hw1
  by_cases h3 : v < 280
  · have HS : Hid (symBits v = codeBits (v - 256) 7) := by show _ = _; rw [symBits, if_neg h1, if_neg h2, if_pos h3]
    go_enter Tryz.func121, Tryz.ntmps121
    go_wp2_with fail
    refine (code_any _ B g bs _ _ (by omega) (by omega) (by omega) h hlen).mono ?_
    rintro e w1 ⟨rfl, hw1, hf1⟩
    go_wp2_with fail
    go_end0
    refine ⟨rfl, ?_, hf1⟩
    rw [HS.out]
    have e1 : ((v : Int) - 256).toNat = v - 256 := by omega
    rw [e1] at hw1
    exact hw1
  · have HS : Hid (symBits v = codeBits (192 + v - 280) 8) := by show _ = _; rw [symBits, if_neg h1, if_neg h2, if_neg h3]
    go_enter Tryz.func121, Tryz.ntmps121
    go_wp2_with fail
    refine (code_any _ B g bs _ _ (by omega) (by omega) (by omega) h hlen).mono ?_
    rintro e w1 ⟨rfl, hw1, hf1⟩
    go_wp2_with fail
    go_end0
    refine ⟨rfl, ?_, hf1⟩
    rw [HS.out]
    have e1 : ((192 : Int) + (v : Int) - 280).toNat = 192 + v - 280 := by omega
    rw [e1] at hw1
    exact hw1

set_option maxRecDepth 100000 in
set_option maxHeartbeats 1000000 in
theorem rsymbol_any (w : World) (B g : Nat) (bs : List Bool) (v : Int) (hv : 0 ≤ v) (hv2 : v < 288) (h : Wr 134 w B g bs) (hlen : bs.length < 900000000) :
    Calls Tryz.prog 129 #[.pointer (some ⟨g, 0, none⟩), .int .i64 v] w (symPost 134 B g bs v.toNat w) := by
  obtain ⟨v, rfl⟩ := Int.eq_ofNat_of_zero_le hv
  rw [Int.toNat_natCast]
  by_cases h1 : v < 144
  · have HS : Hid (symBits v = codeBits (48 + v) 8) := by show _ = _; rw [symBits, if_pos h1]
    go_enter Tryz.func129, Tryz.ntmps129
    go_wp2_with fail
    refine (rcode_any _ B g bs _ _ (by omega) (by omega) (by omega) h hlen).mono ?_
    rintro e w1 ⟨rfl, hw1, hf1⟩
    go_wp2_with fail
    go_end0
    refine ⟨rfl, ?_, hf1⟩
    rw [HS.out]
    have e1 : ((48 : Int) + (v : Int)).toNat = 48 + v := by omega
    rw [e1] at hw1
    exact hw1
  by_cases h2 : v < 256
  · have HS : Hid (symBits v = codeBits (400 + v - 144) 9) := by show _ = _; rw [symBits, if_neg h1, if_pos h2]
    go_enter Tryz.func129, Tryz.ntmps129
    go_wp2_with fail
    refine (rcode_any _ B g bs _ _ (by omega) (by omega) (by omega) h hlen).mono ?_
    rintro e w1 ⟨rfl, hw1, hf1⟩
    go_wp2_with fail
    go_end0
    refine ⟨rfl, ?_, hf1⟩
    rw [HS.out]
    have e1 : ((400 : Int) + (v : Int) - 144).toNat = 400 + v - 144 := by omega
    rw [e1] at hw1
    exact hw1
  by_cases h3 : v < 280
  · have HS : Hid (symBits v = codeBits (v - 256) 7) := by show _ = _; rw [symBits, if_neg h1, if_neg h2, if_pos h3]
    go_enter Tryz.func129, Tryz.ntmps129
    go_wp2_with fail
    refine (rcode_any _ B g bs _ _ (by omega) (by omega) (by omega) h hlen).mono ?_
    rintro e w1 ⟨rfl, hw1, hf1⟩
    go_wp2_with fail
    go_end0
    refine ⟨rfl, ?_, hf1⟩
    rw [HS.out]
    have e1 : ((v : Int) - 256).toNat = v - 256 := by omega
    rw [e1] at hw1
    exact hw1
  · have HS : Hid (symBits v = codeBits (192 + v - 280) 8) := by show _ = _; rw [symBits, if_neg h1, if_neg h2, if_neg h3]
    go_enter Tryz.func129, Tryz.ntmps129
    go_wp2_with fail
    refine (rcode_any _ B g bs _ _ (by omega) (by omega) (by omega) h hlen).mono ?_
    rintro e w1 ⟨rfl, hw1, hf1⟩
    go_wp2_with fail
    go_end0
    refine ⟨rfl, ?_, hf1⟩
    rw [HS.out]
    have e1 : ((192 : Int) + (v : Int) - 280).toNat = 192 + v - 280 := by omega
    rw [e1] at hw1
    exact hw1

end Go.Proofs.YthbejefodelpkaaGreat
namespace Go.Proofs.YthbejefodelpkaaGreat
open Go.RowKit
set_option maxRecDepth 100000

set_option maxRecDepth 100000 in
set_option maxHeartbeats 1000000 in
theorem dmatch_any (w : World) (B g : Nat) (bs : List Bool) (n d : Nat) (h0 : 3 ≤ n) (h1 : n ≤ 258) (h2 : 1 ≤ d) (h3 : d ≤ 4096) (h : Wr 123 w B g bs) (hlen : bs.length < 800000000) :
    Calls Tryz.prog 122 #[.pointer (some ⟨g, 0, none⟩), .int .i64 n, .int .i64 d] w fun e w' => e = .returned (.tuple #[]) ∧ Wr 123 w' B g (bs ++ matchBits n d) ∧ Fr B [123, 5] w w' := by
  obtain ⟨a1, a2, a3, a4, a5⟩ := lenSym_ok n h0 h1
  obtain ⟨b1, b2, b3, b4⟩ := distSym_ok d h2 h3
  clear a4 b3
  go_enter Tryz.func122, Tryz.ntmps122
  go_wp2_with fail
  refine (lenSym_any n _ h1).mono ?_
  rintro e w1 ⟨rfl, rfl⟩
  go_wp2_with fail
  refine (dsymbol_any _ B g bs _ (by omega) (by omega) h (by omega)).mono ?_
  rintro e w1 ⟨rfl, hw1, hf1⟩
  have l1 := symBits_length (lenSym n).1
  rw [Int.toNat_natCast] at hw1
  go_wp2_with fail
  refine (dnumber_any _ B g _ _ _ (by omega) (by omega) (by omega) hw1 (by rw [List.length_append]; omega)).mono ?_
  rintro e w2 ⟨rfl, hw2, hf2⟩
  rw [Int.toNat_natCast] at hw2
  go_wp2_with fail
  refine (distSym_any d _ h2 h3).mono ?_
  rintro e w3 ⟨rfl, rfl⟩
  go_wp2_with fail
  refine (code_any _ B g _ _ _ (by omega) (by omega) (by omega) hw2 (by simp only [List.length_append, numBits_length]; omega)).mono ?_
  rintro e w3 ⟨rfl, hw3, hf3⟩
  rw [Int.toNat_natCast] at hw3
  go_wp2_with fail
  refine (dnumber_any _ B g _ _ _ (by omega) (by omega) (by omega) hw3 (by simp only [List.length_append, numBits_length, codeBits_length]; omega)).mono ?_
  rintro e w4 ⟨rfl, hw4, hf4⟩
  rw [Int.toNat_natCast] at hw4
  go_wp2_with fail
  go_end0
  refine ⟨rfl, ?_, hf1.trans (hf2.trans (hf3.trans hf4))⟩
  have e1 : ((n : Int) - ((lenSym n).2.1 : Int)).toNat = n - (lenSym n).2.1 := by omega
  have e2 : ((d : Int) - ((distSym d).2.1 : Int)).toNat = d - (distSym d).2.1 := by omega
  rw [e1, e2] at hw4
  simp only [List.append_assoc] at hw4
  simp only [matchBits, List.append_assoc]
  exact hw4
end Go.Proofs.YthbejefodelpkaaGreat
namespace Go.Proofs.YthbejefodelpkaaGreat
open Go.RowKit
set_option maxRecDepth 100000

theorem hash_num (a b c : UInt8) : (bits .xor .i64 (bits .xor .i64 (wrap64 (wrap64 (a.toNat : Int) * 1024)) (wrap64 (wrap64 (b.toNat : Int) * 32))) (wrap64 (c.toNat : Int))).tmod 32768 =
    (((a.toNat * 1024 ^^^ b.toNat * 32 ^^^ c.toNat) % 32768 : Nat) : Int) := by
  have ha := a.toNat_lt
  have hb := b.toNat_lt
  have hc := c.toNat_lt
  rw [wrap64_byte', wrap64_byte', wrap64_byte', wrap64_of _ (by omega), wrap64_of _ (by omega)]
  have e1 : (a.toNat : Int) * 1024 = ((a.toNat * 1024 : Nat) : Int) := by omega
  have e2 : (b.toNat : Int) * 32 = ((b.toNat * 32 : Nat) : Int) := by omega
  have hx : a.toNat * 1024 ^^^ b.toNat * 32 < 2 ^ 62 := Nat.xor_lt_two_pow (by omega) (by omega)
  rw [e1, e2, xor_nat _ _ (by omega) (by omega), xor_nat _ _ (by omega) (by omega)]
  rfl

set_option maxRecDepth 100000 in
set_option maxHeartbeats 1000000 in
theorem hash_any (w : World) (f p : Nat) (s : ByteArray) (c1 c2 : Value) (hb : Blk w f 155 #[.string s, c1, c2]) (hp : p + 3 ≤ s.size) (hs : s.size < 1000000000) :
    Calls Tryz.prog 147 #[.pointer (some ⟨f, 0, none⟩), .int .i64 p] w fun e w' => e = .returned (.int .i64 (hash3 s.data.toList p)) ∧ ∃ n, w' = w.drewN n := by
  have hc := hb.cell 0
  simp at hc
  have h0 : (p : Int) < (s.size : Int) := by omega
  have h1 : (p : Int) + 1 < (s.size : Int) := by omega
  have h2 : (p : Int) + 2 < (s.size : Int) := by omega
  have w1 : IntKind.i64.wrap ((p : Int) + 1) = (p : Int) + 1 := IntWalk.i64_in _ (by omega)
  have w2 : IntKind.i64.wrap ((p : Int) + 2) = (p : Int) + 2 := IntWalk.i64_in _ (by omega)
  have z1 : (0 : Int) ≤ (p : Int) + 1 := by omega
  have z2 : (0 : Int) ≤ (p : Int) + 2 := by omega
  have n1 : ((p : Int) + 1).toNat = p + 1 := by omega
  have n2 : ((p : Int) + 2).toNat = p + 2 := by omega
  go_enter Tryz.func147, Tryz.ntmps147
  go_wp2_with fail
  go_quiet (fail)
  go_wp2
  go_ret
  refine ⟨ret_int ?_, _, rfl⟩
  rw [hash3, at8, at8, at8, ← byte_at s p (by omega), ← byte_at s (p + 1) (by omega), ← byte_at s (p + 2) (by omega)]
  exact hash_num _ _ _
end Go.Proofs.YthbejefodelpkaaGreat
namespace Go.Proofs.YthbejefodelpkaaGreat
open Go.RowKit
set_option maxRecDepth 100000

/-- The finder behind the pointer ⟨f, 0⟩, to which all places before p were added. -/
structure Fd (w : World) (B N f hd pv : Nat) (s : ByteArray) (p : Nat) : Prop where
  blk : Blk w f 155 #[.string s, .slice (some ⟨hd, 0, none⟩) N N, .slice (some ⟨pv, 0, none⟩) s.size s.size]
  head : ∃ H, Blk w hd 3 H ∧ ∀ h, h < N → H[h]? = some (.int .i64 (headP s.data.toList p h : Nat))
  prev : ∃ V, Blk w pv 3 V ∧ V.size = s.size ∧ ∀ q, q < p → q + 3 ≤ s.size → V[q]? = some (.int .i64 (headP s.data.toList q (hash3 s.data.toList q) : Nat))
  ne : hd ≠ pv
  hN : Hid (N = 32768)
  bh : B ≤ hd
  bp : B ≤ pv

theorem Fd.drewN {w : World} {B N f hd pv : Nat} {s : ByteArray} {p : Nat} (h : Fd w B N f hd pv s p) (n : Nat) : Fd (w.drewN n) B N f hd pv s p := ⟨h.blk, h.head, h.prev, h.ne, h.hN, h.bh, h.bp⟩
theorem Fd.fr {w w' : World} {B N f hd pv : Nat} {s : ByteArray} {p B' : Nat} {T : List TypeId} (h : Fd w B N f hd pv s p) (hf : Fr B' T w w') (h1 : 155 ∉ T) (h2 : 3 ∉ T) : Fd w' B N f hd pv s p := by
  obtain ⟨H, a, b⟩ := h.head
  obtain ⟨V, c, d, e⟩ := h.prev
  exact ⟨hf.blk h.blk h1, ⟨H, hf.blk a h2, b⟩, ⟨V, hf.blk c h2, d, e⟩, h.ne, h.hN, h.bh, h.bp⟩

theorem hash3_lt (l : List UInt8) (p : Nat) : hash3 l p < 32768 := Nat.mod_lt _ (by decide)

/-- What 'add' leaves. -/
theorem fd_add {w : World} {B N f hd pv : Nat} {s : ByteArray} {p h : Nat} (hF : Fd w B N f hd pv s p) (hp : p + 3 ≤ s.size) (hh : h = hash3 s.data.toList p) (k m : Nat) :
    Fd ((((w.drewN k).setCell ⟨pv, p, none⟩ (.int .i64 (headP s.data.toList p h : Nat))).drewN m).setCell ⟨hd, h, none⟩ (.int .i64 ((p : Int) + 1))) B N f hd pv s (p + 1) ∧
    Fr B [3] w ((((w.drewN k).setCell ⟨pv, p, none⟩ (.int .i64 (headP s.data.toList p h : Nat))).drewN m).setCell ⟨hd, h, none⟩ (.int .i64 ((p : Int) + 1))) := by
  obtain ⟨H, a, b⟩ := hF.head
  obtain ⟨V, c, d, e⟩ := hF.prev
  have hfp : f ≠ pv := Blk.apart hF.blk c (by decide)
  have hfh : f ≠ hd := Blk.apart hF.blk a (by decide)
  have hne := hF.ne
  have hlt : h < N := by rw [hh, hF.hN.out]; exact hash3_lt _ _
  have f1 := (((Fr.refl B [3] w).drewN k).put (c.drewN k) hF.bp (by simp) p (.int .i64 (headP s.data.toList p h : Nat))).drewN m
  have b1 := (((a.drewN k).other (p := ⟨pv, p, none⟩) hne (.int .i64 (headP s.data.toList p h : Nat))).drewN m)
  refine ⟨⟨?_, ?_, ?_, hne, hF.hN, hF.bh, hF.bp⟩, f1.put b1 hF.bh (by simp) h _⟩
  · exact Blk.other (((hF.blk.drewN k).other (p := ⟨pv, p, none⟩) hfp _).drewN m) (p := ⟨hd, h, none⟩) hfh _
  · refine ⟨_, b1.put h _, fun j hj => ?_⟩
    have hs : h < H.size := by
      have := b h hlt
      rcases Nat.lt_or_ge h H.size with h1 | h1
      · exact h1
      · rw [Array.getElem?_eq_none h1] at this; cases this
    rw [Array.getElem?_setIfInBounds]
    by_cases hj' : h = j
    · subst hj'
      rw [if_pos rfl, if_pos hs]
      have : headP s.data.toList (p + 1) h = p + 1 := by
        unfold headP; rw [if_pos ⟨by simpa using hp, hh.symm⟩]
      rw [this]; rfl
    · rw [if_neg hj', b j hj]
      have : headP s.data.toList (p + 1) j = headP s.data.toList p j := by
        conv => lhs; unfold headP
        rw [if_neg (fun hx => hj' (by rw [hh]; exact hx.2))]
      rw [this]
  · refine ⟨_, ((((c.drewN k).put p _).drewN m).other (p := ⟨hd, h, none⟩) (Ne.symm hne) _), by simpa using d, fun q hq hq3 => ?_⟩
    rw [Array.getElem?_setIfInBounds]
    by_cases hqp : p = q
    · subst hqp
      rw [if_pos rfl, if_pos (by omega), hh]
    · rw [if_neg hqp]
      exact e q (by omega) hq3

theorem fd_skip {w : World} {B N f hd pv : Nat} {s : ByteArray} {p : Nat} (hF : Fd w B N f hd pv s p) (hp : ¬ p + 3 ≤ s.size) : Fd w B N f hd pv s (p + 1) := by
  obtain ⟨H, a, b⟩ := hF.head
  obtain ⟨V, c, d, e⟩ := hF.prev
  refine ⟨hF.blk, ⟨H, a, fun h hh => ?_⟩, ⟨V, c, d, fun q hq hq3 => ?_⟩, hF.ne, hF.hN, hF.bh, hF.bp⟩
  · rw [headP_short _ _ _ (by simpa using hp)]; exact b h hh
  · exact e q (by omega) hq3

set_option maxRecDepth 100000 in
set_option maxHeartbeats 1000000 in
theorem add_any (w : World) (B N f hd pv : Nat) (s : ByteArray) (p : Nat) (hF : Fd w B N f hd pv s p) (hp : p < s.size) (hs : s.size < 1000000000) :
    Calls Tryz.prog 123 #[.pointer (some ⟨f, 0, none⟩), .int .i64 p] w fun e w' => e = .returned (.tuple #[]) ∧ Fd w' B N f hd pv s (p + 1) ∧ Fr B [3] w w' := by
  have hc0 := hF.blk.cell 0
  have hc1 := hF.blk.cell 1
  have hc2 := hF.blk.cell 2
  simp at hc0 hc1 hc2
  by_cases h3 : p + 3 ≤ s.size
  · obtain ⟨h, hh⟩ : ∃ h, h = hash3 s.data.toList p := ⟨_, rfl⟩
    have hcall := hash_any w f p s _ _ hF.blk h3 hs
    rw [← hh] at hcall
    have HH := Lib.hid hh
    have HC := Lib.hid hcall
    clear hh hcall
    go_enter Tryz.func123, Tryz.ntmps123
    go_wp2_with fail
    refine HC.out.mono ?_
    rintro e w1 ⟨rfl, n1, hn1⟩
    have hF1 : Fd w1 B N f hd pv s p := by rw [hn1]; exact hF.drewN n1
    have hf1 : Fr B [3] w w1 := by rw [hn1]; exact (Fr.refl _ _ _).drewN n1
    clear hn1 hF hc0 hc1 hc2 HC
    have hc0 := hF1.blk.cell 0
    have hc1 := hF1.blk.cell 1
    have hc2 := hF1.blk.cell 2
    simp at hc0 hc1 hc2
    obtain ⟨H, a, b⟩ := hF1.head
    obtain ⟨V, c, d, e⟩ := hF1.prev
    have hfin := fd_add hF1 h3 HH.out 0 1
    have hlt : h < N := by have := hash3_lt s.data.toList p; rw [← HH.out] at this; rw [hF1.hN.out]; exact this
    have ch := a.cell h
    rw [b h (by omega)] at ch
    obtain ⟨u0, cv⟩ : ∃ u0, w1.cell? ⟨pv, p, none⟩ = some u0 := ⟨_, (c.cell p).trans (Array.getElem?_eq_getElem (by omega))⟩
    have fv := c.frozen p
    have hfp : f ≠ pv := Blk.apart hF1.blk c (by decide)
    have hpl : (p : Int) < (s.size : Int) := by omega
    generalize headP s.data.toList p h = x at *
    have a2 := (a.other (p := ⟨pv, p, none⟩) hF1.ne (.int .i64 (x : Nat))).drewN 1
    have b2 := (hF1.blk.other (p := ⟨pv, p, none⟩) hfp (.int .i64 (x : Nat))).drewN 1
    have HX := b h (by omega)
    clear b e d hlt
    go_wp2_with fail
    have hlt : (h : Int) < (N : Int) := by have := hash3_lt s.data.toList p; rw [← HH.out] at this; rw [hF1.hN.out]; omega
    go_still_tail 13, (by kernel_rfl)
    clear hlt
    change wpList _ _ _ _ _ w1.drew
    refine wpList_plain rfl fun K hK => ?_
    go_simp
    refine hK _ _ ?_
    clear hK K hc0 hc1 hc2 ch cv fv hpl
    have e0 : (w1.setCell { block := pv, off := p } (Value.int IntKind.i64 ↑x)).drew = ((w1.drewN 0).setCell { block := pv, off := p } (Value.int IntKind.i64 ↑x)).drewN 1 := rfl
    rw [e0]
    have e1 : (w1.setCell { block := pv, off := p } (Value.int IntKind.i64 ↑x)).drewN 1 = ((w1.drewN 0).setCell { block := pv, off := p } (Value.int IntKind.i64 ↑x)).drewN 1 := rfl
    rw [e1] at a2 b2
    generalize ((w1.drewN 0).setCell { block := pv, off := p } (Value.int IntKind.i64 ↑x)).drewN 1 = w2 at *
    have ch := a2.cell h
    rw [HX] at ch
    have fh := a2.frozen h
    have cf := b2.cell 1
    simp at cf
    have hlt : h < N := by have := hash3_lt s.data.toList p; rw [← HH.out] at this; rw [hF1.hN.out]; exact this
    clear HX e0 e1 a2 b2 HH
    go_wp2
    go_end0
    exact ⟨rfl, hfin.1, hf1.trans hfin.2⟩
  · go_enter Tryz.func123, Tryz.ntmps123
    go_wp2_with fail
    go_end0
    exact ⟨rfl, fd_skip hF h3, Fr.refl _ _ _⟩
end Go.Proofs.YthbejefodelpkaaGreat
