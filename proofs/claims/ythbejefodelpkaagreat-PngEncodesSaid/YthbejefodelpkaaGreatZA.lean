/-
  Plain lemmas on worlds, blocks and rows of cells, used by the walks of this seat. Nothing here speaks of the program.
  Plain lemmas: the CRC-32; its table; that a changed byte changes it.
  Plain lemmas on whole rows: a row stored at once, results that are rows.
-/
import Derived.WalkKit
import Derived.WalkSpells
import Derived.WalkLawsBesides
import Derived.Lib.Hide
import Derived.Lib.AppendStr
import Derived.Maps.AppendAt
import Derived.Deep.AppendLies
import Derived.Deep.Draws
import Derived.Deep.QuietTactic
import Derived.BigQuiet
import Derived.OrdersHeld
import Derived.Laws.Rows
import Derived.Laws.Tables
import Derived.Great.BuildSlice
namespace Go.Proofs.YthbejefodelpkaaGreat
open Go.RowKit

/-- Block k of w is just the cells cs of element type t, none of them frozen. -/
def Blk (w : World) (k : Nat) (t : TypeId) (cs : Array Value) : Prop := w.heap[k]? = some (.cells cs t (0, 0))

theorem Blk.lt {w : World} {k : Nat} {t : TypeId} {cs : Array Value} (h : Blk w k t cs) : k < w.heap.size := by
  unfold Blk at h
  rcases Nat.lt_or_ge k w.heap.size with h1 | h1
  · exact h1
  · rw [Array.getElem?_eq_none h1] at h; cases h
theorem Blk.cell {w : World} {k : Nat} {t : TypeId} {cs : Array Value} (h : Blk w k t cs) (i : Nat) : w.cell? ⟨k, i, none⟩ = cs[i]? := cell_of_row w k i cs t (0, 0) h
theorem Blk.frozen {w : World} {k : Nat} {t : TypeId} {cs : Array Value} (h : Blk w k t cs) (i : Nat) : w.frozen? ⟨k, i, none⟩ = false := by
  unfold Blk at h; simp [World.frozen?, h]
theorem Blk.new (w : World) (t : TypeId) (cs : Array Value) : Blk (w.alloc (.cells cs t)) w.heap.size t cs := heap_alloc_new w _
theorem Blk.alloc {w : World} {k : Nat} {t : TypeId} {cs : Array Value} (h : Blk w k t cs) (o : Obj) : Blk (w.alloc o) k t cs := (Below.heap_alloc w o k h.lt).trans h
theorem Blk.drew {w : World} {k : Nat} {t : TypeId} {cs : Array Value} (h : Blk w k t cs) : Blk w.drew k t cs := h
theorem Blk.drewN {w : World} {k : Nat} {t : TypeId} {cs : Array Value} (h : Blk w k t cs) (n : Nat) : Blk (w.drewN n) k t cs := h
theorem Blk.put {w : World} {k : Nat} {t : TypeId} {cs : Array Value} (h : Blk w k t cs) (i : Nat) (u : Value) : Blk (w.setCell ⟨k, i, none⟩ u) k t (cs.setIfInBounds i u) := by
  unfold Blk at h ⊢
  simp [World.setCell, Array.getElem?_modify, h]
theorem Blk.other {w : World} {k : Nat} {t : TypeId} {cs : Array Value} (h : Blk w k t cs) {p : Addr} (hp : k ≠ p.block) (u : Value) : Blk (w.setCell p u) k t cs := (Below.heap_setCell w p u k hp).trans h
theorem Blk.uniq {w : World} {k : Nat} {t t' : TypeId} {cs cs' : Array Value} (h : Blk w k t cs) (h' : Blk w k t' cs') : t = t' ∧ cs = cs' := by
  unfold Blk at h h'; rw [h] at h'; injection h' with h'; injection h' with h1 h2; exact ⟨h2, h1⟩
theorem Blk.apart {w : World} {k k' : Nat} {t t' : TypeId} {cs cs' : Array Value} (h : Blk w k t cs) (h' : Blk w k' t' cs') (hne : t ≠ t') : k ≠ k' := by
  rintro rfl; exact hne (h.uniq h').1

/-- w' is w with new blocks, and with writes into blocks from B on whose element type is in T. -/
structure Fr (B : Nat) (T : List TypeId) (w w' : World) : Prop where
  os : w'.os = w.os
  tape : w'.tape = w.tape
  output : w'.output = w.output
  size : w.heap.size ≤ w'.heap.size
  block : ∀ k, k < w.heap.size → (k < B ∨ ∃ cs t fr, w.heap[k]? = some (.cells cs t fr) ∧ t ∉ T) → w'.heap[k]? = w.heap[k]?

theorem Fr.refl (B : Nat) (T : List TypeId) (w : World) : Fr B T w w := ⟨rfl, rfl, rfl, Nat.le_refl _, fun _ _ _ => rfl⟩
theorem Fr.trans {B : Nat} {T : List TypeId} {a b c : World} (h : Fr B T a b) (h' : Fr B T b c) : Fr B T a c :=
  ⟨h'.os.trans h.os, h'.tape.trans h.tape, h'.output.trans h.output, Nat.le_trans h.size h'.size, fun k hk hc => by
    have e := h.block k hk hc
    refine (h'.block k (Nat.lt_of_lt_of_le hk h.size) ?_).trans e
    rw [e]; exact hc⟩
theorem Fr.blk {B : Nat} {T : List TypeId} {w w' : World} (h : Fr B T w w') {k : Nat} {t : TypeId} {cs : Array Value} (hb : Blk w k t cs) (ht : t ∉ T) : Blk w' k t cs :=
  (h.block k hb.lt (.inr ⟨cs, t, (0, 0), hb, ht⟩)).trans hb
theorem Fr.blk_lt {B : Nat} {T : List TypeId} {w w' : World} (h : Fr B T w w') {k : Nat} {t : TypeId} {cs : Array Value} (hb : Blk w k t cs) (hk : k < B) : Blk w' k t cs :=
  (h.block k hb.lt (.inl hk)).trans hb
theorem Fr.alloc {B : Nat} {T : List TypeId} {a w : World} (h : Fr B T a w) (o : Obj) : Fr B T a (w.alloc o) :=
  h.trans ⟨rfl, rfl, rfl, by simp, fun k hk _ => Below.heap_alloc _ _ _ hk⟩
theorem Fr.drew {B : Nat} {T : List TypeId} {a w : World} (h : Fr B T a w) : Fr B T a w.drew := ⟨h.os, h.tape, h.output, h.size, h.block⟩
theorem Fr.drewN {B : Nat} {T : List TypeId} {a w : World} (h : Fr B T a w) (n : Nat) : Fr B T a (w.drewN n) := ⟨h.os, h.tape, h.output, h.size, h.block⟩
theorem Fr.put {B : Nat} {T : List TypeId} {a w : World} (h : Fr B T a w) {k : Nat} {t : TypeId} {cs : Array Value} (hb : Blk w k t cs) (hk : B ≤ k) (ht : t ∈ T) (i : Nat) (u : Value) : Fr B T a (w.setCell ⟨k, i, none⟩ u) :=
  h.trans ⟨rfl, rfl, rfl, by simp [World.setCell], fun j hj hc => Below.heap_setCell _ _ _ _ (fun e => by
    obtain rfl : k = j := e.symm
    rcases hc with hc | ⟨cs', t', fr', e', ht'⟩
    · have hc' : k < B := hc
      omega
    · unfold Blk at hb
      rw [hb] at e'; injection e' with e'; injection e' with _ e2
      exact ht' (e2 ▸ ht))⟩
theorem Fr.grown {B : Nat} {T : List TypeId} {a w w' : World} (h : Fr B T a w) {base : Nat} {e : TypeId} {size : Nat} {v : Value} {n : Nat} {xs : List Value} (ho : w.ownsRow base e size v n xs) (hB : B ≤ base) (he : e ∈ T) (hg : w.grownBy w' v.ownBlock) : Fr B T a w' :=
  h.trans ⟨hg.os, hg.tape, hg.output, hg.size, fun k hk hc => hg.block k hk (fun eq => by
    rcases ho.2 with ⟨rfl, _⟩ | ⟨g, cap, cur, rfl, hbg, hh, _⟩
    · simp [Value.ownBlock] at eq
    · have : k = g := by simpa [Value.ownBlock] using eq
      subst this
      rcases hc with hc | ⟨cs', t', fr', e', ht'⟩
      · omega
      · rw [hh] at e'; injection e' with e'; injection e' with _ e2
        exact ht' (e2 ▸ he))⟩
theorem Fr.below {B : Nat} {T : List TypeId} {w w' : World} (h : Fr B T w w') (hB : B ≤ w.heap.size) : Below B w w' :=
  ⟨h.os, h.tape, h.output, h.size, fun k hk => h.block k (by omega) (.inl hk)⟩
theorem Fr.of_below {B : Nat} {w w' : World} (h : Below w.heap.size w w') (T : List TypeId) : Fr B T w w' :=
  ⟨h.os, h.tape, h.output, h.size, fun k hk _ => h.block k hk⟩
theorem Fr.mono {B B' : Nat} {T T' : List TypeId} {w w' : World} (h : Fr B T w w') (hB : B' ≤ B) (hT : ∀ t ∈ T, t ∈ T') : Fr B' T' w w' :=
  ⟨h.os, h.tape, h.output, h.size, fun k hk hc => h.block k hk (by
    rcases hc with hc | ⟨cs, t, fr, e, ht⟩
    · exact .inl (by omega)
    · exact .inr ⟨cs, t, fr, e, fun hm => ht (hT _ hm)⟩)⟩
/-- What is owned stays owned where its element type is not among those that are written. -/
theorem Fr.owns {B : Nat} {T : List TypeId} {w w' : World} (h : Fr B T w w') {base : Nat} {e : TypeId} {size : Nat} {v : Value} {n : Nat} {xs : List Value} (ho : w.ownsRow base e size v n xs) (he : e ∉ T) : w'.ownsRow base e size v n xs := by
  refine ⟨ho.1, ?_⟩
  rcases ho.2 with hn | ⟨g, cap, cur, rfl, hb, hgg, rest⟩
  · exact .inl hn
  · refine .inr ⟨g, cap, cur, rfl, hb, ?_, rest⟩
    rw [h.block g (Array.getElem?_eq_some_iff.1 hgg).1 (.inr ⟨_, _, _, hgg, he⟩)]; exact hgg

/-- The element type's row of the table, and the slice type's. -/
def Elem (P : Program) (t e : TypeId) (z : Value) (size bytes : Nat) : Prop :=
  P.underlying t = some (.slice e) ∧ (∃ i, P.info? e = some i ∧ i.zero = some z ∧ i.size = size ∧ i.bytes = bytes) ∧ z.cells.size = size ∧ 0 < size

/-- The bytes of a list as cells. -/
def bcells (l : List UInt8) : List Value := l.map fun b => Value.int .u8 b.toNat
theorem bcells_length (l : List UInt8) : (bcells l).length = l.length := by simp [bcells]
theorem bcells_append (a b : List UInt8) : bcells (a ++ b) = bcells a ++ bcells b := by simp [bcells]
theorem bcells_one (l : List UInt8) : ∀ u ∈ bcells l, u.oneCell' = true := by
  intro u hu; simp only [bcells, List.mem_map] at hu; obtain ⟨b, _, rfl⟩ := hu; rfl
theorem bcells_get (l : List UInt8) (i : Nat) (h : i < l.length) : (bcells l)[i]? = some (.int .u8 (l[i].toNat : Int)) := by simp [bcells, h]
theorem bcell_ofNat (n : Nat) (h : n < 256) : Value.int .u8 ((UInt8.ofNat n).toNat : Int) = .int .u8 (n : Int) := by
  rw [UInt8.toNat_ofNat']; congr 2; omega

/-- The slice value v owns a row, from block base on, that holds the bytes l. -/
def BRow (w : World) (base : Nat) (e : TypeId) (v : Value) (l : List UInt8) : Prop := w.ownsRow base e 1 v l.length (bcells l)

section
variable {P : Program} {w0 : World}

/-- 'append(out, c1, .., cm)': the new cells lie in the block that the statement has just laid. -/
theorem wpList_app {ops : Array Oper} {rest : List Oper} {o : Oper} {a : Act} {Q : Exit → Act → World → Prop} {s x : Operand} {t e : TypeId} {z : Value} {size bytes : Nat}
    (hE : Elem P t e z size bytes) {base : Nat} {v : Value} {n : Nat} {xs : List Value} (hown : w0.ownsRow base e size v n xs) (hbase : base ≤ w0.heap.size)
    (hgd : o.guard = none) (ho : o.op = .call { callee := .builtin .append, args := #[s, x], argTypes := #[t, t] }) (hs : a.eval s = v)
    {cs : Array Value} {m : Nat} (hm : cs.size = (m + 1) * size) (h1 : ∀ u ∈ cs.toList, u.oneCell' = true) (hx : a.eval x = .slice (some ⟨w0.heap.size, 0, none⟩) (m + 1) (m + 1))
    (hlen : (n + (m + 1)) * bytes ≤ 140737488355328) (h63 : n + (m + 1) ≤ maxLen)
    (h : ∀ r cap w', w'.ownsRow base e size (.slice (some ⟨r, 0, none⟩) (n + (m + 1)) cap) (n + (m + 1)) (xs ++ cs.toList) → (w0.alloc (.cells cs e)).grownBy w' v.ownBlock → (v.ownBlock = some r ∨ r = w0.heap.size + 1) →
      wpList P ops Q rest (a.put o.dst (.slice (some ⟨r, 0, none⟩) (n + (m + 1)) cap)) w') : wpList P ops Q (o :: rest) a (w0.alloc (.cells cs e)) := by
  obtain ⟨ht, ⟨i, hi, hz, hsz, hby⟩, hzs, hp⟩ := hE
  refine wpList_append_lies _ hgd s x t ho base e i z size bytes ht hi hz hsz hby hzs hp v n xs hs (hown.alloc _) ⟨w0.heap.size, 0, none⟩ (m + 1) (m + 1) cs.toList hx (by simpa using hm) (World.news_of_block (Blk.new w0 e cs)) h1 (by omega) h63 hlen (by simp; omega) (w0.heap.size + 1) (by simp) ?_
  intro r cap w' h1 h2 h3 _
  exact h r cap w' h1 h2 h3

/-- 'append(out, s...)', s a string. -/
theorem wpList_app_str {w : World} {ops : Array Oper} {rest : List Oper} {o : Oper} {a : Act} {Q : Exit → Act → World → Prop} {sl x : Operand} {t u e : TypeId}
    (hE : Elem P t e (.int .u8 0) 1 1) (hu : P.underlying u = some .string) {base : Nat} {v : Value} {l : List UInt8} (hown : BRow w base e v l) (hbase : base ≤ w.heap.size)
    (hgd : o.guard = none) (ho : o.op = .call { callee := .builtin .append, args := #[sl, x], argTypes := #[t, u] }) (hs : a.eval sl = v)
    {s : ByteArray} (hx : a.eval x = .string s) (hlen : l.length + s.size ≤ 140737488355328)
    (h : ∀ v' w', BRow w' base e v' (l ++ s.data.toList) → w.grownBy w' v.ownBlock → wpList P ops Q rest (a.put o.dst v') w') : wpList P ops Q (o :: rest) a w := by
  obtain ⟨ht, ⟨i, hi, hz, hsz, hby⟩, _, _⟩ := hE
  refine Lib.wpList_append_own_string w hgd sl x t u ho base e i ht hu hi hz hsz hby v l.length (bcells l) hs hown s hx (by unfold maxLen; omega) hlen hbase ?_
  intro v' w' h2 h3 _
  refine h v' w' ?_ h3
  unfold BRow
  rw [bcells_append, List.length_append]
  exact h2
end

/-- 'string(b)' of an owned row. -/
theorem run_str_of {P : Program} {w : World} {src dst e : TypeId} (hs : P.underlying src = some (.slice e)) (he : P.underlying e = some (.int .u8)) (hd : P.underlying dst = some .string)
    {base : Nat} {v : Value} {l : List UInt8} (h : BRow w base e v l) : (convert src dst v).run P w = .ok (.string ⟨l.toArray⟩) w := by
  rcases h.2 with ⟨rfl, h0⟩ | ⟨g, cap, cur, rfl, _, hg, _, _, _, ht⟩
  · have : l = [] := List.eq_nil_of_length_eq_zero h0
    subst this
    rw [run_convert_bytes_string w src dst e none 0 0 hs he hd]
    simp [Conv.bytesToString]; rfl
  · refine run_convert_bytes_back w src dst e ⟨g, 0, none⟩ cap l hs he hd fun j hj => ?_
    have := World.ownsRow.cells h (g := g) rfl j _ (bcells_get l j hj)
    exact this

theorem brow_more {w : World} {base : Nat} {e : TypeId} {v : Value} {n : Nat} {l : List UInt8} {xs : List Value} (h : w.ownsRow base e 1 v n (bcells l ++ xs)) (new : List UInt8) (hx : xs = bcells new) (hn : n = l.length + new.length) : BRow w base e v (l ++ new) := by
  subst hx; subst hn
  unfold BRow
  rw [bcells_append, List.length_append]
  exact h

/-- Behind an append onto a row of the call's own. -/
theorem below_app {B : Nat} {w wr w1 : World} {e : TypeId} {size : Nat} {v : Value} {n : Nat} {xs : List Value} {o : Obj} (hb : Below B w wr) (hB : B ≤ wr.heap.size) (ho : wr.ownsRow B e size v n xs)
    (hg : (wr.alloc o).grownBy w1 v.ownBlock) : Below B w w1 ∧ B ≤ w1.heap.size := by
  refine ⟨(hb.alloc hB o).grown hg (by simp; omega) (fun k hk => (ho.lt k hk).1), ?_⟩
  have := hg.size; simp at this; omega
theorem below_app' {B : Nat} {w wr w1 : World} {e : TypeId} {size : Nat} {v : Value} {n : Nat} {xs : List Value} (hb : Below B w wr) (hB : B ≤ wr.heap.size) (ho : wr.ownsRow B e size v n xs)
    (hg : wr.grownBy w1 v.ownBlock) : Below B w w1 ∧ B ≤ w1.heap.size := by
  refine ⟨hb.grown hg hB (fun k hk => (ho.lt k hk).1), ?_⟩
  have := hg.size; omega

theorem xor255 (x : Int) (h0 : 0 ≤ x) (h1 : x < 256) : bits .xor .u8 (if IntKind.u8.signed = true then -1 else IntKind.u8.max) x = 255 - x := by
  obtain ⟨n, rfl⟩ := Int.eq_ofNat_of_zero_le h0
  have hn : n < 256 := by omega
  have key : ∀ n : Fin 256, bits .xor .u8 (if IntKind.u8.signed = true then -1 else IntKind.u8.max) (n.val : Int) = 255 - (n.val : Int) := by decide +kernel
  exact key ⟨n, hn⟩

/-- The cell of a number that is a byte. -/
theorem cell_byte (x : Int) (n : Nat) (h : x = (n % 256 : Nat)) : Value.int .u8 x = Value.int .u8 ((UInt8.ofNat n).toNat : Int) := by
  rw [UInt8.toNat_ofNat', h]

/-- The length of the string in a slot: for a loop's measure. -/
def strLen : Value → Nat | .string r => r.size | _ => 0
theorem extract_list (s : ByteArray) (a b : Nat) : (s.extract a b).data.toList = (s.data.toList.take b).drop a := by
  rw [ByteArray.data_extract]; simp [List.drop_take]

theorem own_ne {w : World} {g r n cap : Nat} {t e : TypeId} {cs : Array Value} {base size : Nat} {xs : List Value} (hb : Blk w g t cs) (ho : w.ownsRow base e size (.slice (some ⟨r, 0, none⟩) n cap) n xs) (hne : t ≠ e) : g ≠ r := by
  rcases ho.2 with ⟨h, _⟩ | ⟨g', cap', cur, h, _, hg, _⟩
  · cases h
  · injection h with h1
    injection h1 with h1
    injection h1 with h1
    subst h1
    exact Blk.apart hb hg hne

theorem own_blk_ne' {w : World} {g : Nat} {t e : TypeId} {cs : Array Value} {base n size : Nat} {v : Value} {xs : List Value} (hb : Blk w g t cs)
    (ho : (v = .slice none 0 0 ∧ n = 0) ∨ ∃ g cap cur, v = .slice (some ⟨g, 0, none⟩) n cap ∧ base ≤ g ∧ w.heap[g]? = some (.cells cur e (0, 0)) ∧ n ≤ cap ∧ cap ≤ maxLen ∧ cur.size = cap * size ∧ cur.toList.take (n * size) = xs) (hne : t ≠ e) : some g ≠ v.ownBlock := by
  rcases ho with ⟨rfl, _⟩ | ⟨g', cap, cur, rfl, _, hg, _⟩
  · simp [Value.ownBlock]
  · intro h
    have : g = g' := by simpa [Value.ownBlock] using h
    subst this
    exact Blk.apart hb hg hne rfl

theorem ret_int {k : IntKind} {a b : Int} (h : a = b) : Ending.returned (.int k a) = .returned (.int k b) := by rw [h]
theorem wrap64_of (n : Int) (h : -9223372036854775808 ≤ n ∧ n ≤ 9223372036854775807) : wrap64 n = n := by unfold wrap64; omega
theorem wrap64_byte' (b : UInt8) : wrap64 (b.toNat : Int) = (b.toNat : Int) := wrap64_of _ (by have := b.toNat_lt; omega)
theorem xor_nat (a b : Nat) (ha : a < 9223372036854775808) (hb : b < 9223372036854775808) : bits .xor .i64 (a : Int) (b : Int) = ((a ^^^ b : Nat) : Int) := by
  have hx : a ^^^ b < 2 ^ 63 := Nat.xor_lt_two_pow (by omega) (by omega)
  have h1 : ∀ a : Nat, a < 9223372036854775808 → (BitVec.ofInt 64 (a : Int)).toNat = a := fun a ha => by
    rw [BitVec.ofInt_natCast, BitVec.toNat_ofNat]; exact Nat.mod_eq_of_lt (by omega)
  show IntKind.i64.wrap ((BitVec.ofInt 64 (a : Int) ^^^ BitVec.ofInt 64 (b : Int)).toNat : Int) = _
  rw [BitVec.toNat_xor, h1 a ha, h1 b hb, IntKind.wrap_i64]
  omega
theorem byte_at (s : ByteArray) (i : Nat) (h : i < s.size) : s[i] = s.data.toList.getD i 0 := by
  have h' : i < s.data.toList.length := by simpa using h
  simp only [List.getD_eq_getElem?_getD, List.getElem?_eq_getElem h', Option.getD_some]; rfl

theorem byte_beq {a b : UInt8} (h : ((a.toNat : Int) == (b.toNat : Int)) = true) : a = b := by
  have h1 := beq_iff_eq.1 h
  exact UInt8.toNat_inj.1 (by omega)
theorem byte_bne {a b : UInt8} (h : ((a.toNat : Int) == (b.toNat : Int)) = false) : a ≠ b := by
  rintro rfl
  simp at h

/-- A new row of n cells z. -/
def mkRow (z : Value) (n : Nat) : Array Value := Array.replicate n z
theorem mkRow_size (z : Value) (n : Nat) : (mkRow z n).size = n := by simp [mkRow]
theorem mkRow_get (z : Value) (n i : Nat) (h : i < n) : (mkRow z n)[i]? = some z := by simp [mkRow, h]
theorem madeCells_one {z : Value} (h : z.cells = #[z]) (n : Nat) : madeCells z.cells n = mkRow z n := by
  rw [h]
  apply Array.ext
  · simp [size_madeCells, mkRow]
  · intro i h1 h2
    simp [madeCells, mkRow, Nat.mod_one]
/-- 'make([]T, n)', T of one cell. -/
theorem run_mk {P : Program} {t e : TypeId} {z : Value} {bytes : Nat} (hE : Elem P t e z 1 bytes) (hz : z.cells = #[z]) (n : Nat) (hb : bytes * n ≤ 281474976710656) (h63 : n ≤ 9223372036854775807) (w : World) :
    (Instr.makeSlice t (.int .i64 (n : Int)) (.int .i64 (n : Int))).run P w = .ok (.slice (some ⟨w.heap.size, 0, none⟩) n n) (w.alloc (.cells (mkRow z n) e)) := by
  obtain ⟨ht, ⟨i, hi, hzz, hsz, hby⟩, _, _⟩ := hE
  have hb' : (i.bytes : Int) * (n : Int) ≤ 281474976710656 := by
    rw [hby]
    have : ((bytes * n : Nat) : Int) ≤ 281474976710656 := by omega
    rwa [Int.natCast_mul] at this
  have hr := run_make (P := P) w t e i z ht hi hzz .i64 .i64 n n (by omega) (by omega) hb' (by omega)
  rw [hr, Int.toNat_natCast, hsz, Nat.mul_one, madeCells_one hz]

theorem Blk.new_at {w : World} {k : Nat} (hk : k = w.heap.size) (t : TypeId) (cs : Array Value) : Blk (w.alloc (.cells cs t)) k t cs := by subst hk; exact Blk.new w t cs

theorem bthen {w w1 w2 : World} (h : Below w.heap.size w w1) (h' : Below w1.heap.size w1 w2) : Below w.heap.size w w2 := h.trans (h'.mono h.size)

/-- Old cells read as before. -/
theorem bcell {W w1 : World} (hb : Below W.heap.size W w1) : (∀ b o, b < W.heap.size → w1.cell? ⟨b, o, none⟩ = W.cell? ⟨b, o, none⟩) ∧ (∀ b o, b < W.heap.size → w1.frozen? ⟨b, o, none⟩ = W.frozen? ⟨b, o, none⟩) :=
  ⟨fun b o h => hb.cell (p := ⟨b, o, none⟩) h, fun b o h => hb.frozen (p := ⟨b, o, none⟩) h⟩

theorem below_drew_alloc {w w9 : World} (hb : Below w.drew.heap.size w.drew w9) (o : Obj) : Below w.heap.size w (w9.alloc o) := by
  have h : Below w.heap.size w w9 := ((Below.refl w.heap.size w).drew).trans hb
  exact h.alloc h.size o
theorem below_alloc_drew {w w9 : World} {o : Obj} (hb : Below (w.alloc o).drew.heap.size (w.alloc o).drew w9) : Below w.heap.size w w9 :=
  ((((Below.refl w.heap.size w).alloc (Nat.le_refl _) o).drew)).trans (hb.mono (by simp [World.drew]))

/-- A region's walk may go on under a stronger promise. -/
theorem wpAnyH_weaken {P : Program} {md : Region.Mode} {ops : Array Oper} {Q : Exit → Act → World → Prop} {S S2 : World → Prop} (hS : ∀ w, S2 w → S w) :
    ∀ {fuel : Nat} {listed : Array Bool} {a : Act} {w : World}, wpAnyH P md ops Q S2 fuel listed a w → wpAnyH P md ops Q S fuel listed a w
  | 0, _, _, _, h => h
  | _ + 1, _, _, _, h => ⟨h.1, fun i hi => wpOp_mono (fun _ _ h' => ⟨hS _ h'.1, wpAnyH_weaken hS h'.2⟩) (h.2 i hi)⟩

end Go.Proofs.YthbejefodelpkaaGreat
namespace Go.Proofs.YthbejefodelpkaaGreat
open Go.RowKit
set_option maxRecDepth 100000

def crcStep (c : Nat) : Nat := if c % 2 = 1 then (c / 2) ^^^ 3988292384 else c / 2
def crcSteps : Nat → Nat → Nat
  | 0, c => c
  | n + 1, c => crcSteps n (crcStep c)
def crcTab (i : Nat) : Nat := crcSteps 8 i
/-- What a byte makes of the sum. -/
def crcB (c : Nat) (b : UInt8) : Nat := (c / 256) ^^^ crcTab ((c ^^^ b.toNat) % 256)
def crcGo (c : Nat) (l : List UInt8) : Nat := l.foldl crcB c
def crcP (l : List UInt8) : Nat := 4294967295 - crcGo 4294967295 l
theorem xor_lt32 (a b : Nat) (ha : a < 4294967296) (hb : b < 4294967296) : a ^^^ b < 4294967296 := Nat.xor_lt_two_pow (n := 32) ha hb
theorem crcStep_lt (c : Nat) (h : c < 4294967296) : crcStep c < 4294967296 := by
  unfold crcStep
  split
  · exact xor_lt32 _ _ (by omega) (by omega)
  · omega
theorem crcSteps_lt (n : Nat) : ∀ c, c < 4294967296 → crcSteps n c < 4294967296 := by
  induction n with
  | zero => exact fun c h => h
  | succ n ih => exact fun c h => ih _ (crcStep_lt c h)
theorem crcTab_lt (i : Nat) (h : i < 256) : crcTab i < 4294967296 := crcSteps_lt 8 i (by omega)
theorem crcB_lt (c : Nat) (b : UInt8) (h : c < 4294967296) : crcB c b < 4294967296 := xor_lt32 _ _ (by omega) (crcTab_lt _ (by omega))
theorem crcGo_lt (l : List UInt8) : ∀ c, c < 4294967296 → crcGo c l < 4294967296 := by
  induction l with
  | nil => exact fun c h => h
  | cons b r ih => exact fun c h => ih _ (crcB_lt c b h)
theorem crcP_lt (l : List UInt8) : crcP l < 4294967296 := by unfold crcP; omega
theorem crcSteps_succ (n c : Nat) : crcSteps (n + 1) c = crcStep (crcSteps n c) := by
  induction n generalizing c with
  | zero => rfl
  | succ n ih => show crcSteps (n + 1) (crcStep c) = _; rw [ih]; rfl
theorem crcStep_xor (a b : Nat) : crcStep (a ^^^ b) = crcStep a ^^^ crcStep b := by
  unfold crcStep
  have h2 : (a ^^^ b) / 2 = a / 2 ^^^ b / 2 := Nat.xor_div_two
  have hm : (a ^^^ b) % 2 = (a % 2 + b % 2) % 2 := by
    have h := Nat.xor_mod_two_pow (a := a) (b := b) (n := 1)
    simp only [Nat.pow_one] at h
    rcases Nat.mod_two_eq_zero_or_one a with ha | ha <;> rcases Nat.mod_two_eq_zero_or_one b with hb | hb <;> rw [ha, hb] at h <;> rw [h, ha, hb] <;> rfl
  rw [h2]
  by_cases ha : a % 2 = 1 <;> by_cases hb : b % 2 = 1
  · rw [if_pos ha, if_pos hb, if_neg (by omega)]
    rw [Nat.xor_comm (b / 2) 3988292384, Nat.xor_assoc, ← Nat.xor_assoc 3988292384, Nat.xor_self, Nat.zero_xor]
  · rw [if_pos ha, if_neg hb, if_pos (by omega)]
    rw [Nat.xor_assoc, Nat.xor_comm (b / 2), ← Nat.xor_assoc]
  · rw [if_neg ha, if_pos hb, if_pos (by omega), Nat.xor_assoc]
  · rw [if_neg ha, if_neg hb, if_neg (by omega)]
theorem crcSteps_xor (n : Nat) : ∀ a b, crcSteps n (a ^^^ b) = crcSteps n a ^^^ crcSteps n b := by
  induction n with
  | zero => exact fun _ _ => rfl
  | succ n ih => intro a b; show crcSteps n (crcStep _) = _; rw [crcStep_xor, ih]; rfl
theorem crcSteps_shift (n : Nat) : ∀ h, crcSteps n (2 ^ n * h) = h := by
  induction n with
  | zero => intro h; simp [crcSteps]
  | succ n ih =>
    intro h
    show crcSteps n (crcStep _) = h
    have e : crcStep (2 ^ (n + 1) * h) = 2 ^ n * h := by
      have : 2 ^ (n + 1) * h = 2 * (2 ^ n * h) := by rw [Nat.pow_succ, Nat.mul_comm (2 ^ n) 2, Nat.mul_assoc]
      unfold crcStep
      rw [this, if_neg (by omega)]
      omega
    rw [e, ih]
theorem split8 (x : Nat) : x = (2 ^ 8 * (x / 256)) ^^^ (x % 256) := by
  have h : 2 ^ 8 * (x / 256) ^^^ x % 256 = 2 ^ 8 * (x / 256) + x % 256 := by
    rw [Nat.two_pow_add_eq_or_of_lt (i := 8) (b := x % 256) (by omega) (x / 256)]
    apply Nat.eq_of_testBit_eq
    intro i
    rw [Nat.testBit_xor, Nat.testBit_or]
    by_cases hi : i < 8
    · have : (2 ^ 8 * (x / 256)).testBit i = false := by rw [Nat.testBit_two_pow_mul]; simp; omega
      rw [this]; simp
    · have : (x % 256).testBit i = false := by rw [show 256 = 2 ^ 8 from rfl, Nat.testBit_mod_two_pow]; simp; omega
      rw [this]; simp
  rw [h]; omega
/-- The table does eight steps at once. -/
theorem crcSteps8 (x : Nat) : crcSteps 8 x = (x / 256) ^^^ crcTab (x % 256) := by
  conv => lhs; rw [split8 x]
  rw [crcSteps_xor, crcSteps_shift]
  rfl
theorem xor_div256 (c b : Nat) (hb : b < 256) : (c ^^^ b) / 256 = c / 256 := by
  rw [show 256 = 2 ^ 8 from rfl, ← Nat.shiftRight_eq_div_pow, ← Nat.shiftRight_eq_div_pow, Nat.shiftRight_xor_distrib]
  rw [show b >>> 8 = 0 by rw [Nat.shiftRight_eq_div_pow]; omega, Nat.xor_zero]
theorem crcB_steps (c : Nat) (b : UInt8) : crcB c b = crcSteps 8 (c ^^^ b.toNat) := by
  rw [crcSteps8, xor_div256 _ _ b.toNat_lt]
  rfl
/-! ### A changed byte changes the sum -/
theorem tab_high : ((List.range 256).all fun i => (List.range 256).all fun j => i == j || crcTab i / 16777216 != crcTab j / 16777216) = true := by decide +kernel
theorem tab_inj (i j : Nat) (hi : i < 256) (hj : j < 256) (h : crcTab i / 16777216 = crcTab j / 16777216) : i = j := by
  have := List.all_eq_true.1 (List.all_eq_true.1 tab_high i (List.mem_range.2 hi)) j (List.mem_range.2 hj)
  simp only [Bool.or_eq_true, beq_iff_eq, bne_iff_ne] at this
  exact this.resolve_right (fun n => n h)
theorem xor_cancel {a b c : Nat} (h : a ^^^ c = b ^^^ c) : a = b := by
  have := congrArg (· ^^^ c) h
  simpa [Nat.xor_assoc] using this
theorem high_xor (a t : Nat) (ha : a < 16777216) : (a ^^^ t) / 16777216 = t / 16777216 := by
  rw [show 16777216 = 2 ^ 24 from rfl, ← Nat.shiftRight_eq_div_pow, ← Nat.shiftRight_eq_div_pow, Nat.shiftRight_xor_distrib]
  rw [show a >>> 24 = 0 by rw [Nat.shiftRight_eq_div_pow]; omega, Nat.zero_xor]
theorem crcB_inj (c d : Nat) (b : UInt8) (hc : c < 4294967296) (hd : d < 4294967296) (h : crcB c b = crcB d b) : c = d := by
  unfold crcB at h
  have h1 : (c / 256 ^^^ crcTab ((c ^^^ b.toNat) % 256)) / 16777216 = (d / 256 ^^^ crcTab ((d ^^^ b.toNat) % 256)) / 16777216 := by rw [h]
  rw [high_xor _ _ (by omega), high_xor _ _ (by omega)] at h1
  have h2 := tab_inj _ _ (by omega) (by omega) h1
  rw [h2] at h
  have h3 := xor_cancel h
  have h4 : c % 256 = d % 256 := by
    have e : ∀ x : Nat, (x ^^^ b.toNat) % 256 = (x % 256) ^^^ b.toNat := fun x => by
      rw [show 256 = 2 ^ 8 from rfl, Nat.xor_mod_two_pow, Nat.mod_eq_of_lt (a := b.toNat) (by have := b.toNat_lt; omega)]
    rw [e, e] at h2
    exact xor_cancel h2
  omega
theorem crcGo_inj (l : List UInt8) : ∀ c d, c < 4294967296 → d < 4294967296 → crcGo c l = crcGo d l → c = d := by
  induction l with
  | nil => exact fun _ _ _ _ h => h
  | cons b r ih => exact fun c d hc hd h => crcB_inj c d b hc hd (ih _ _ (crcB_lt c b hc) (crcB_lt d b hd) h)
theorem crcB_byte (c : Nat) (a b : UInt8) (h : crcB c a = crcB c b) : a = b := by
  unfold crcB at h
  rw [Nat.xor_comm, Nat.xor_comm (c / 256)] at h
  have h0 := xor_cancel h
  have h1 := tab_inj _ _ (by omega) (by omega) (congrArg (· / 16777216) h0)
  have e : ∀ y : UInt8, (c ^^^ y.toNat) % 256 = y.toNat ^^^ (c % 256) := fun y => by
    rw [show 256 = 2 ^ 8 from rfl, Nat.xor_mod_two_pow, Nat.mod_eq_of_lt (a := y.toNat) (by have := y.toNat_lt; omega), Nat.xor_comm]
  rw [e, e] at h1
  exact UInt8.toNat_inj.1 (xor_cancel h1)
/-- One byte replaced by another one: another sum. -/
theorem crcP_change (x r : List UInt8) (a b : UInt8) (hab : a ≠ b) : crcP (x ++ a :: r) ≠ crcP (x ++ b :: r) := by
  intro h
  unfold crcP at h
  have l1 := crcGo_lt (x ++ a :: r) 4294967295 (by decide)
  have l2 := crcGo_lt (x ++ b :: r) 4294967295 (by decide)
  have h1 : crcGo 4294967295 (x ++ a :: r) = crcGo 4294967295 (x ++ b :: r) := by omega
  unfold crcGo at h1
  rw [List.foldl_append, List.foldl_append, List.foldl_cons, List.foldl_cons] at h1
  have hx : List.foldl crcB 4294967295 x < 4294967296 := crcGo_lt x 4294967295 (by decide)
  have h2 := crcGo_inj r _ _ (crcB_lt _ a hx) (crcB_lt _ b hx) h1
  exact hab (crcB_byte _ a b h2)
/-! ### Bits of 32-bit numbers -/
theorem bv_nat (n a : Nat) (h : a < 2 ^ n) : (BitVec.ofInt n (a : Int)).toNat = a := by
  rw [BitVec.ofInt_natCast, BitVec.toNat_ofNat]; exact Nat.mod_eq_of_lt h
theorem xor_u32 (a b : Nat) (ha : a < 4294967296) (hb : b < 4294967296) : bits .xor .u32 (a : Int) (b : Int) = ((a ^^^ b : Nat) : Int) := by
  have hx := xor_lt32 a b ha hb
  show IntKind.u32.wrap ((BitVec.ofInt 32 (a : Int) ^^^ BitVec.ofInt 32 (b : Int)).toNat : Int) = _
  rw [BitVec.toNat_xor, bv_nat 32 a ha, bv_nat 32 b hb, IntKind.wrap_u32]
  omega
theorem and1_u32 (a : Nat) (ha : a < 4294967296) : bits .and .u32 (a : Int) 1 = ((a % 2 : Nat) : Int) := by
  show IntKind.u32.wrap ((BitVec.ofInt 32 (a : Int) &&& BitVec.ofInt 32 1).toNat : Int) = _
  rw [BitVec.toNat_and, bv_nat 32 a ha, show (BitVec.ofInt 32 1).toNat = 1 from rfl, Nat.and_one_is_mod, IntKind.wrap_u32]
  omega
theorem xor_u8 (a b : Nat) (ha : a < 256) (hb : b < 256) : bits .xor .u8 (a : Int) (b : Int) = ((a ^^^ b : Nat) : Int) := by
  have hx : a ^^^ b < 256 := Nat.xor_lt_two_pow (n := 8) ha hb
  show IntKind.u8.wrap ((BitVec.ofInt 8 (a : Int) ^^^ BitVec.ofInt 8 (b : Int)).toNat : Int) = _
  rw [BitVec.toNat_xor, bv_nat 8 a ha, bv_nat 8 b hb, IntKind.wrap_u8]
  omega
end Go.Proofs.YthbejefodelpkaaGreat
namespace Go.Proofs.YthbejefodelpkaaGreat
open Go.RowKit

theorem Blk.rset {w : World} {k : Nat} {t : TypeId} {cs : Array Value} (h : Blk w k t cs) (cs' : Array Value) : Blk (w.setRow k cs') k t cs' := by
  unfold Blk at h ⊢
  simp [World.setRow, Array.getElem?_modify, h]
theorem heap_rset_ne (w : World) (g k : Nat) (cs' : Array Value) (hk : k ≠ g) : (w.setRow g cs').heap[k]? = w.heap[k]? := by
  simp only [World.setRow, Array.getElem?_modify]
  rw [if_neg (fun e => hk e.symm)]
theorem Blk.rset_ne {w : World} {k g : Nat} {t : TypeId} {cs : Array Value} (h : Blk w k t cs) (cs' : Array Value) (hk : k ≠ g) : Blk (w.setRow g cs') k t cs := (heap_rset_ne w g k cs' hk).trans h
theorem rset_size (w : World) (g : Nat) (cs : Array Value) : (w.setRow g cs).heap.size = w.heap.size := by simp [World.setRow]
theorem below_rset {B : Nat} {w w' : World} (h : Below B w w') {g : Nat} (hg : B ≤ g) (cs : Array Value) : Below B w (w'.setRow g cs) :=
  ⟨h.os, h.tape, h.output, by rw [rset_size]; exact h.size, fun k hk => (heap_rset_ne w' g k cs (by omega)).trans (h.block k hk)⟩
theorem below_put {B : Nat} {w w' : World} (h : Below B w w') {p : Addr} (hg : B ≤ p.block) (u : Value) : Below B w (w'.setCell p u) :=
  ⟨h.os, h.tape, h.output, by simp only [World.setCell, Array.size_modify]; exact h.size, fun k hk => (Below.heap_setCell w' p u k (by omega)).trans (h.block k hk)⟩
theorem rset_same {w : World} {g : Nat} {t : TypeId} {cs : Array Value} (h : Blk w g t cs) : w.setRow g cs = w := by
  have hh : (w.setRow g cs).heap = w.heap := by
    apply Array.ext_getElem?
    intro i
    by_cases hi : i = g
    · subst hi
      have := h.rset cs
      unfold Blk at this h
      rw [this, h]
    · exact heap_rset_ne w g i cs hi
  cases w
  simp only [World.setRow] at hh ⊢
  simp [hh]
/-- A row stored over the same row: the world stays. -/
theorem wpList_rset_same {P : Program} {ops : Array Oper} {rest : List Oper} {o : Oper} {a : Act} {w : World} {Q : Exit → Act → World → Prop} (hgd : o.guard = none) (ty : TypeId) (x y : Operand) (ho : o.op = .store ty x y)
    (hd : o.dst = none) (g : Nat) (cells : Array Value) (hx : a.eval x = .pointer (some ⟨g, 0, none⟩)) (hy : a.eval y = .agg cells)
    (t : TypeId) (hg : Blk w g t cells) (hi : (P.info? ty).map (·.size) = some cells.size) (h1 : cells.all (·.oneCell') = true)
    (h : wpList P ops Q rest a w) : wpList P ops Q (o :: rest) a w := by
  refine wpList_store_rowTo hgd ty x y ho hd g cells hx hy t cells hg hi rfl h1 ?_
  rw [rset_same hg]
  exact h
theorem results_ctt {P : Program} {fn : Func} {p q r : Tmp} {ty : TypeId} (h : fn.results = #[.cell p ty, .tmp q, .tmp r]) (tmps : Array Value) (w : World) (g : Nat) (t : TypeId) (cs : Array Value) (fr : Nat × Nat) (d : TypeDesc) (u v : Value)
    (hp : tmps.getD p undef = .pointer (some ⟨g, 0, none⟩)) (hq : tmps.getD q undef = u) (hr : tmps.getD r undef = v) (hg : w.heap[g]? = some (.cells cs t fr))
    (hu : P.underlying ty = some d) (hd : (match d with | .struct _ | .array _ _ => true | _ => false) = true) (hi : (P.info? ty).map (·.size) = some cs.size) :
    (results fn tmps).run P w = .ok (.tuple #[.agg cs, u, v]) w := by
  have hp' : tmps[p]?.getD undef = .pointer (some ⟨g, 0, none⟩) := by simpa using hp
  have hq' : tmps[q]?.getD undef = u := by simpa using hq
  have hr' : tmps[r]?.getD undef = v := by simpa using hr
  simp [results, h, hp', hq', hr', asAddr, run_loadVar_row w g t ty cs fr d hg hu hd hi]
theorem results_ct {P : Program} {fn : Func} {p q : Tmp} {ty : TypeId} (h : fn.results = #[.cell p ty, .tmp q]) (tmps : Array Value) (w : World) (g : Nat) (t : TypeId) (cs : Array Value) (fr : Nat × Nat) (d : TypeDesc) (u : Value)
    (hp : tmps.getD p undef = .pointer (some ⟨g, 0, none⟩)) (hq : tmps.getD q undef = u) (hg : w.heap[g]? = some (.cells cs t fr))
    (hu : P.underlying ty = some d) (hd : (match d with | .struct _ | .array _ _ => true | _ => false) = true) (hi : (P.info? ty).map (·.size) = some cs.size) :
    (results fn tmps).run P w = .ok (.tuple #[.agg cs, u]) w := by
  have hp' : tmps[p]?.getD undef = .pointer (some ⟨g, 0, none⟩) := by simpa using hp
  have hq' : tmps[q]?.getD undef = u := by simpa using hq
  simp [results, h, hp', hq', asAddr, run_loadVar_row w g t ty cs fr d hg hu hd hi]
end Go.Proofs.YthbejefodelpkaaGreat
