/-
  Walks: the header, in the program.
-/
import Derived.Test.YtakkdgcmeeilbaaDoorP7
namespace Go.Proofs.YtakkdgcmeeilbaaDoor
open Go.RowKit

def toHd : Option (Nat × Nat × Nat × Nat × List UInt8) → Option (Nat × Nat × Nat × Nat × List Mt × List UInt8)
  | none => none
  | some (a, b, d, c, r) => some (a, b, d, c, [], r)
/-- The header of a file: width, height, depth, greatest value, metadata, and what follows it. -/
def headP (l : List UInt8) : Option (Nat × Nat × Nat × Nat × List Mt × List UInt8) :=
  if begP [80, 55, 10] l = true then sevP (l.drop 3)
  else if begP [80, 54] l = true then toHd (plainP 3 (l.drop 2))
  else if begP [80, 53] l = true then toHd (plainP 1 (l.drop 2))
  else none
theorem plV_ok (r : Option (Nat × Nat × Nat × Nat × List UInt8)) (w : World) : HdOk (toHd r) (.returned (plV r)) w := by
  match r with
  | none => exact rfl
  | some (a, b, d, c, r) => exact ⟨_, rfl, mrow_nil w⟩
/-- The cells of a header's reader's answer. -/
theorem HdOk.row {r : Option (Nat × Nat × Nat × Nat × List Mt × List UInt8)} {e : Ending} {w : World} (h : HdOk r e w) : ∃ cs s b, e = .returned (.tuple #[.agg cs, .string s, .bool b]) ∧ cs.size = 5 ∧ cs.all (·.oneCell') = true ∧ (Tryd.prog.info? 49).map (·.size) = some cs.size := by
  match r, h with
  | none, h => exact ⟨hdr0, ⟨#[]⟩, false, h, rfl, hdr0_one, hdr0_inf⟩
  | some (a, b, c, d, ms, r), h =>
    obtain ⟨v, rfl, hm⟩ := h
    refine ⟨_, _, _, rfl, rfl, hdrC_one _ _ _ _ _ ?_, hdrC_inf _ _ _ _ _⟩
    obtain ⟨x, c, rfl, -⟩ := hm; rfl
theorem HdOk.below {r : Option (Nat × Nat × Nat × Nat × List Mt × List UInt8)} {e : Ending} {w w' : World} (h : HdOk r e w) (hb : Below w.heap.size w w') : HdOk r e w' := by
  match r, h with
  | none, h => exact h
  | some (a, b, c, d, ms, r), h =>
    obtain ⟨v, rfl, hm⟩ := h
    exact ⟨v, rfl, hm.below hb⟩
theorem mrow_rset {w : World} {v : Value} {l : List Mt} {k : Nat} {t : TypeId} {cs : Array Value} (h : MRow w v l) (hb : Blk w k t cs) (hns : ∀ (i : Nat) (s : ByteArray), cs[i]? ≠ some (.string s)) (cs' : Array Value) : MRow (w.setRow k cs') v l := by
  obtain ⟨x, c, rfl, h1, h2, h3, h4⟩ := h
  refine ⟨x, c, rfl, h1, h2, h3, fun hne => ?_⟩
  obtain ⟨b, off, rfl, hc⟩ := h4 hne
  have hbk : b ≠ k := by
    rintro rfl
    have hl : 0 < l.length := List.length_pos_iff.2 hne
    have := (hc 0 hl).1
    rw [hb.cell] at this
    exact hns _ _ this
  have hcell : ∀ o, (w.setRow k cs').cell? ⟨b, o, none⟩ = w.cell? ⟨b, o, none⟩ := fun o => by
    simp only [World.cell?, heap_rset_ne w k b cs' hbk]
  exact ⟨b, off, rfl, fun i hi => ⟨(hcell _).trans (hc i hi).1, (hcell _).trans (hc i hi).2⟩⟩
theorem hdr0_ns (i : Nat) (s : ByteArray) : hdr0[i]? ≠ some (.string s) := by
  match i with
  | 0 => simp [hdr0, hdrC]
  | 1 => simp [hdr0, hdrC]
  | 2 => simp [hdr0, hdrC]
  | 3 => simp [hdr0, hdrC]
  | 4 => simp [hdr0, hdrC]
  | i + 5 => simp [hdr0, hdrC]
theorem HdOk.rset {r : Option (Nat × Nat × Nat × Nat × List Mt × List UInt8)} {e : Ending} {w : World} (h : HdOk r e w) {k : Nat} (hb : Blk w k 49 hdr0) (cs' : Array Value) : HdOk r e (w.setRow k cs') := by
  match r, h with
  | none, h => exact h
  | some (a, b, c, d, ms, r), h =>
    obtain ⟨v, rfl, hm⟩ := h
    exact ⟨v, rfl, mrow_rset hm hb hdr0_ns cs'⟩

set_option maxHeartbeats 2000000 in
set_option maxRecDepth 100000 in
theorem readHeader_any (t : ByteArray) (w : World) (ht : t.size ≤ maxLen) : Calls Tryd.prog 22 #[.string t] w fun e w' => HdOk (headP t.data.toList) e w' ∧ Below w.heap.size w w' := by
  have HP : Hid (headP t.data.toList = if begP [80, 55, 10] t.data.toList = true then sevP (t.data.toList.drop 3) else if begP [80, 54] t.data.toList = true then toHd (plainP 3 (t.data.toList.drop 2)) else if begP [80, 53] t.data.toList = true then toHd (plainP 1 (t.data.toList.drop 2)) else none) := rfl
  have H7 : Hid (∀ w, Calls Tryd.prog 35 #[.string t, .string ⟨#[80, 55, 10]⟩] w fun e w' => e = .returned (.bool (begP [80, 55, 10] t.data.toList)) ∧ w = w') := fun w => hasPre_any t ⟨#[80, 55, 10]⟩ w
  have H6 : Hid (∀ w, Calls Tryd.prog 35 #[.string t, .string ⟨#[80, 54]⟩] w fun e w' => e = .returned (.bool (begP [80, 54] t.data.toList)) ∧ w = w') := fun w => hasPre_any t ⟨#[80, 54]⟩ w
  have H5 : Hid (∀ w, Calls Tryd.prog 35 #[.string t, .string ⟨#[80, 53]⟩] w fun e w' => e = .returned (.bool (begP [80, 53] t.data.toList)) ∧ w = w') := fun w => hasPre_any t ⟨#[80, 53]⟩ w
  go_enter Tryd.func22, Tryd.ntmps22
  have hb0 := Blk.new w 49 hdr0
  have hbe0 := (Below.refl w.heap.size w).alloc (Nat.le_refl _) (.cells hdr0 49)
  go_wp2_with fail
  refine (H7.out _).mono ?_
  rintro e w1 ⟨rfl, rfl⟩
  change Blk (w.alloc (.cells #[.int .i64 0, .int .i64 0, .int .i64 0, .int .i64 0, .slice none 0 0] 49)) w.heap.size 49 hdr0 at hb0
  change Below w.heap.size w (w.alloc (.cells #[.int .i64 0, .int .i64 0, .int .i64 0, .int .i64 0, .slice none 0 0] 49)) at hbe0
  generalize w.alloc (.cells #[.int .i64 0, .int .i64 0, .int .i64 0, .int .i64 0, .slice none 0 0] 49) = wz at *
  have HB0 := Lib.hid hb0
  have HBE := Lib.hid hbe0
  clear hb0 hbe0
  generalize hB : w.heap.size = B at *
  have HB := Lib.hid hB
  clear hB
  obtain ⟨b7, h7⟩ : ∃ b, begP [80, 55, 10] t.data.toList = b := ⟨_, rfl⟩
  rw [h7] at HP ⊢
  cases b7 with
  | true =>
    rw [if_pos rfl] at HP
    have h3 : (3 : Int) ≤ (t.size : Int) := by unfold begP at h7; simp at h7; omega
    have HX : Hid ((t.extract 3 t.size).data.toList = t.data.toList.drop 3) := by show _ = _; rw [extract_list, List.take_of_length_le (by simp)]
    have HRL := Lib.hid (readLines_any (t.extract 3 t.size) wz (by rw [ByteArray.size_extract]; omega))
    rw [HX.out] at HRL
    clear h7
    go_wp2_with fail
    refine HRL.out.mono ?_
    rintro e w2 ⟨hok, hb2⟩
    obtain ⟨cs, s, b, rfl, hcs, h1, hin⟩ := hok.row
    have HB2 : Hid (Blk w2 B 49 hdr0) := (hb2.block B HB0.out.lt).trans HB0.out
    have HBE2 : Hid (Below B w w2) := HBE.out.trans (hb2.mono (by have := HB0.out.lt; omega))
    have HOK := Lib.hid hok
    have HCS := Lib.hid hcs
    have H1 := Lib.hid h1
    have HIN := Lib.hid hin
    clear hok hb2 hcs h1 hin
    go_wp2_with (refine wpList_store_rowTo rfl 49 (.tmp 2) (.tmp 11) rfl rfl B cs (by rfl) (by rfl) 49 hdr0 (by exact HB2.out) (by exact HIN.out) (by exact HCS.out.symm) (by exact H1.out) ?_)
    refine bodyPost_ret (v := .tuple #[.agg cs, .string s, .bool b]) (results_ctt rfl _ _ B 49 cs (0, 0) _ _ _ rfl rfl rfl (HB2.out.rset cs) Tryd.underlying49 rfl HIN.out) rfl ⟨?_, by rw [HB.out]; exact below_rset HBE2.out (Nat.le_refl _) _⟩
    rw [HP.out]
    exact HOK.out.rset HB2.out cs
  | false =>
    rw [if_neg (by decide)] at HP
    clear h7
    go_wp2_with fail
    refine (H6.out _).mono ?_
    rintro e w1 ⟨rfl, rfl⟩
    obtain ⟨b6, h6⟩ : ∃ b, begP [80, 54] t.data.toList = b := ⟨_, rfl⟩
    rw [h6] at HP ⊢
    cases b6 with
    | true =>
      rw [if_pos rfl] at HP
      have h3 : (2 : Int) ≤ (t.size : Int) := by unfold begP at h6; simp at h6; omega
      have HX : Hid ((t.extract 2 t.size).data.toList = t.data.toList.drop 2) := by show _ = _; rw [extract_list, List.take_of_length_le (by simp)]
      have HRL := Lib.hid ((readNumbers_any (t.extract 2 t.size) 3 wz (by rw [ByteArray.size_extract]; omega)).mono fun e w' h => (⟨by rw [h.1]; exact plV_ok _ _, h.2⟩ : HdOk (toHd (plainP 3 (t.extract 2 t.size).data.toList)) e w' ∧ Below wz.heap.size wz w'))
      rw [HX.out] at HRL
      clear h6
      go_wp2_with fail
      refine HRL.out.mono ?_
      rintro e w2 ⟨hok, hb2⟩
      obtain ⟨cs, s, b, rfl, hcs, h1, hin⟩ := hok.row
      have HB2 : Hid (Blk w2 B 49 hdr0) := (hb2.block B HB0.out.lt).trans HB0.out
      have HBE2 : Hid (Below B w w2) := HBE.out.trans (hb2.mono (by have := HB0.out.lt; omega))
      have HOK := Lib.hid hok
      have HCS := Lib.hid hcs
      have H1 := Lib.hid h1
      have HIN := Lib.hid hin
      clear hok hb2 hcs h1 hin
      go_wp2_with (refine wpList_store_rowTo rfl 49 (.tmp 2) (.tmp 20) rfl rfl B cs (by rfl) (by rfl) 49 hdr0 (by exact HB2.out) (by exact HIN.out) (by exact HCS.out.symm) (by exact H1.out) ?_)
      refine bodyPost_ret (v := .tuple #[.agg cs, .string s, .bool b]) (results_ctt rfl _ _ B 49 cs (0, 0) _ _ _ rfl rfl rfl (HB2.out.rset cs) Tryd.underlying49 rfl HIN.out) rfl ⟨?_, by rw [HB.out]; exact below_rset HBE2.out (Nat.le_refl _) _⟩
      rw [HP.out]
      exact HOK.out.rset HB2.out cs
    | false =>
      rw [if_neg (by decide)] at HP
      clear h6
      go_wp2_with fail
      refine (H5.out _).mono ?_
      rintro e w1 ⟨rfl, rfl⟩
      obtain ⟨b5, h5⟩ : ∃ b, begP [80, 53] t.data.toList = b := ⟨_, rfl⟩
      rw [h5] at HP ⊢
      cases b5 with
      | true =>
        rw [if_pos rfl] at HP
        have h3 : (2 : Int) ≤ (t.size : Int) := by unfold begP at h5; simp at h5; omega
        have HX : Hid ((t.extract 2 t.size).data.toList = t.data.toList.drop 2) := by show _ = _; rw [extract_list, List.take_of_length_le (by simp)]
        have HRL := Lib.hid ((readNumbers_any (t.extract 2 t.size) 1 wz (by rw [ByteArray.size_extract]; omega)).mono fun e w' h => (⟨by rw [h.1]; exact plV_ok _ _, h.2⟩ : HdOk (toHd (plainP 1 (t.extract 2 t.size).data.toList)) e w' ∧ Below wz.heap.size wz w'))
        rw [HX.out] at HRL
        clear h5
        go_wp2_with fail
        refine HRL.out.mono ?_
        rintro e w2 ⟨hok, hb2⟩
        obtain ⟨cs, s, b, rfl, hcs, h1, hin⟩ := hok.row
        have HB2 : Hid (Blk w2 B 49 hdr0) := (hb2.block B HB0.out.lt).trans HB0.out
        have HBE2 : Hid (Below B w w2) := HBE.out.trans (hb2.mono (by have := HB0.out.lt; omega))
        have HOK := Lib.hid hok
        have HCS := Lib.hid hcs
        have H1 := Lib.hid h1
        have HIN := Lib.hid hin
        clear hok hb2 hcs h1 hin
        go_wp2_with (refine wpList_store_rowTo rfl 49 (.tmp 2) (.tmp 29) rfl rfl B cs (by rfl) (by rfl) 49 hdr0 (by exact HB2.out) (by exact HIN.out) (by exact HCS.out.symm) (by exact H1.out) ?_)
        refine bodyPost_ret (v := .tuple #[.agg cs, .string s, .bool b]) (results_ctt rfl _ _ B 49 cs (0, 0) _ _ _ rfl rfl rfl (HB2.out.rset cs) Tryd.underlying49 rfl HIN.out) rfl ⟨?_, by rw [HB.out]; exact below_rset HBE2.out (Nat.le_refl _) _⟩
        rw [HP.out]
        exact HOK.out.rset HB2.out cs
      | false =>
        rw [if_neg (by decide)] at HP
        clear h5
        go_wp2_with (refine wpList_rset_same rfl 49 (.tmp 2) (.tmp 32) rfl rfl B hdr0 (by rfl) (by rfl) 49 (by exact HB0.out) hdr0_inf hdr0_one ?_)
        refine bodyPost_ret (v := hd0V) (results_ctt rfl _ _ B 49 hdr0 (0, 0) _ _ _ rfl rfl rfl HB0.out Tryd.underlying49 rfl hdr0_inf) rfl ⟨?_, by rw [HB.out]; exact HBE.out⟩
        rw [HP.out]; rfl
end Go.Proofs.YtakkdgcmeeilbaaDoor
