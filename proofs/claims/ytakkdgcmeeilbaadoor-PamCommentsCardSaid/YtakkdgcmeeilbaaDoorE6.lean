/-
  What a file that was written is read as; values of 8 bits, in the reference.
-/
import Derived.Test.YtakkdgcmeeilbaaDoorE5
import Derived.Test.YtakkdgcmeeilbaaDoorBk
import Derived.Test.YtakkdgcmeeilbaaDoorR7
import Derived.Deep.RegionHeld
namespace Go.Proofs.YtakkdgcmeeilbaaDoor
open Go.RowKit

theorem rfrom8_any (x : Int) (w : World) : Calls Tryd.prog 12 #[.int .i64 x] w fun e w' => e = .returned (.int .i64 (257 * clampI x 0 255)) ∧ w = w' := by
  have H := Lib.hid (fun w => rclamp_any x 0 255 w)
  have HR : Hid (257 * clampI x 0 255 = 257 * clampI x 0 255) := rfl
  have h0 : 0 ≤ clampI x 0 255 ∧ clampI x 0 255 ≤ 255 := by unfold clampI; omega
  generalize clampI x 0 255 = y at *
  go_enter Tryd.func12, Tryd.ntmps12
  go_wp2_with fail
  refine (H.out _).mono ?_
  rintro e w1 ⟨rfl, rfl⟩
  go_wp2_with fail
  go_ret
  exact ⟨rfl, rfl⟩
theorem clamp_to8 (x : Int) : clampI (to8I x) 0 255 = to8I x := by
  have := to8I_rng x
  unfold clampI; omega
theorem enc_ok {W H d : Int} {px : List Px} {ms : List Mt} (h : encK (encP W H px d ms) = 0) : ∃ l, encP W H px d ms = .ok l ∧ l.length ≤ 1048576 := by
  unfold encP at *
  split at h
  · rename_i h1; exact absurd h h1
  split at h
  · cases h
  split at h
  · cases h
  split at h
  · rename_i h1; exact absurd h h1
  split at h
  · cases h
  · rename_i h1 h2 h3 h4 h5
    rw [if_neg h1, if_neg h2, if_neg h3, if_neg h4, if_neg h5]
    exact ⟨_, rfl, by omega⟩
/-- What the decoder gives for a file that was written (n: how many pixels). -/
def Back (s : ByteArray) (wn hn n : Nat) (px : List Px) (ms : List Mt) : Prop :=
  ∀ w, Calls Tryd.prog 9 #[.string s] w fun e w' => (∃ x c xm cm, e = .returned (.tuple #[.agg #[.int .i64 (wn : Int), .int .i64 (hn : Int), .slice x n c], .slice xm ms.length cm, .int .i64 0]) ∧ PRow w' (.slice x n c) px ∧ MRow w' (.slice xm ms.length cm) ms) ∧ Below w.heap.size w w'
theorem back_of {s : ByteArray} {wn hn n : Nat} {px : List Px} {ms : List Mt} (h : decP s.data.toList = .ok (wn, hn, px, ms)) (hs : s.size ≤ maxLen) (hn2 : px.length = n) : Back s wn hn n px ms := by
  intro w
  refine (decode_any s w hs).mono ?_
  rintro e w' ⟨ho, hb⟩
  rw [h] at ho
  obtain ⟨pv, mv, rfl, hp, hm⟩ := ho
  obtain ⟨x, c, rfl, -⟩ := id hp
  obtain ⟨xm, cm, rfl, -⟩ := id hm
  rw [hn2] at hp ⊢
  exact ⟨⟨x, c, xm, cm, rfl, hp, hm⟩, hb⟩
theorem map_qd16 (px : List Px) : px.map (qdP 16) = px := by
  have : qdP 16 = id := by funext p; rfl
  rw [this, List.map_id]
theorem map_qd8 (px : List Px) : px.map (qdP 8) = px.map q8P := by
  have : qdP 8 = q8P := by funext p; unfold qdP; rw [if_neg (by decide)]
  rw [this]
theorem enc_back16 {W H : Int} {px : List Px} {ms : List Mt} (h : encK (encP W H px 16 ms) = 0) : ∃ wn hn : Nat, W = (wn : Int) ∧ H = (hn : Int) ∧ px.length ≤ 65536 ∧ Back (encS (encP W H px 16 ms)) wn hn px.length px ms := by
  obtain ⟨l, hl, hlen⟩ := enc_ok h
  obtain ⟨h1, -⟩ := encP_facts hl
  have hd := dec_back hl
  rw [hl]
  obtain ⟨wn, hn, rfl, rfl, hw, hh, hpl, -⟩ := rchk_zero h1
  refine ⟨wn, hn, rfl, rfl, ?_, back_of ?_ ?_ rfl⟩
  · rw [hpl]; exact Nat.mul_le_mul hw hh
  · show decP l = _
    rw [hd]
    have e : (16 : Int).toNat = 16 := rfl
    rw [e, map_qd16]; simp
  · show l.length ≤ maxLen
    unfold maxLen; omega
theorem enc_back8 {W H : Int} {px : List Px} {ms : List Mt} (h : encK (encP W H px 8 ms) = 0) (wn hn : Nat) (hw : W = (wn : Int)) (hh : H = (hn : Int)) : Back (encS (encP W H px 8 ms)) wn hn px.length (px.map q8P) ms := by
  obtain ⟨l, hl, hlen⟩ := enc_ok h
  have hd := dec_back hl
  rw [hl]
  subst hw hh
  refine back_of ?_ ?_ (by simp)
  · show decP l = _
    rw [hd]
    have e : (8 : Int).toNat = 8 := rfl
    rw [e, map_qd8]; simp
  · show l.length ≤ maxLen
    unfold maxLen; omega
theorem dec_run (v : Value) (w : World) : (callFunc 9 #[v]).run Tryd.prog w = .ok (.enter 9 #[v]) w := by kernel_rfl
/-- 'Back' in the shape of a step within a region that draws. -/
theorem Back.step {s : ByteArray} {wn hn n : Nat} {px : List Px} {ms : List Mt} (h : Back s wn hn n px ms) (w : World) : Calls Tryd.prog 9 #[.string s] w fun e w' => ∃ v, e = .returned v ∧ ((∃ x c xm cm, v = .tuple #[.agg #[.int .i64 (wn : Int), .int .i64 (hn : Int), .slice x n c], .slice xm ms.length cm, .int .i64 0] ∧ PRow w' (.slice x n c) px ∧ MRow w' (.slice xm ms.length cm) ms) ∧ Below w.heap.size w w') :=
  (h w).mono fun _ _ ⟨⟨x, c, xm, cm, he, hp, hm⟩, hb⟩ => ⟨_, he, ⟨x, c, xm, cm, rfl, hp, hm⟩, hb⟩
/-- A file with a comment that is no entry, and an empty line. -/
theorem enc_note {W H : Int} {px : List Px} {ms : List Mt} (h : encK (encP W H px 16 ms) = 0) : ∃ wn hn : Nat, W = (wn : Int) ∧ H = (hn : Int) ∧ px.length ≤ 65536 ∧ 3 ≤ (encS (encP W H px 16 ms)).size ∧ (encS (encP W H px 16 ms)).size ≤ 1048576 ∧
    ∀ line : List UInt8, (10 : UInt8) ∉ line → line.getD 0 0 = 35 → line.getD 1 0 ≠ 32 → decP ((encS (encP W H px 16 ms)).data.toList.take 3 ++ (line ++ [10, 10]) ++ (encS (encP W H px 16 ms)).data.toList.drop 3) = .ok (wn, hn, px, ms) := by
  obtain ⟨l, hl, hlen⟩ := enc_ok h
  obtain ⟨h1, -, -, -, hf⟩ := encP_facts hl
  have hd := fun note hn => dec_file hl note hn
  rw [hl]
  obtain ⟨wn, hn, rfl, rfl, hw, hh, hpl, -⟩ := rchk_zero h1
  have e : (16 : Int).toNat = 16 := rfl
  refine ⟨wn, hn, rfl, rfl, ?_, ?_, hlen, fun line ha hb hc => ?_⟩
  · rw [hpl]; exact Nat.mul_le_mul hw hh
  · show 3 ≤ l.length
    rw [hf]; unfold fileB; simp
  · have := hd (line ++ [10, 10]) (.inr ⟨line, rfl, ha, hb, hc⟩)
    show decP (l.take 3 ++ (line ++ [10, 10]) ++ l.drop 3) = _
    rw [this, e, map_qd16]; simp
theorem blk_go {w w' : World} {k : Nat} {t : TypeId} {cs : Array Value} (h : Blk w k t cs) (hb : Below w.heap.size w w') : Blk w' k t cs := (hb.block _ h.lt).trans h
/-- What is known of the memory of a law, between two calls. -/
structure RtS (w wx : World) (B K : Nat) (ci cb : Array Value) (vi vb mi m1 m2 : Value) (px qx : List Px) (ms : List Mt) : Prop where
  bel : Below B w wx
  hB : B ≤ wx.heap.size
  ib : Blk wx B 24 ci
  bb : Blk wx K 24 cb
  pi : PRow wx vi px
  pb : PRow wx vb qx
  mi : MRow wx mi ms
  m1 : MRow wx m1 ms
  m2 : MRow wx m2 ms
theorem RtS.go {w wx wy : World} {B K : Nat} {ci cb : Array Value} {vi vb mi m1 m2 : Value} {px qx : List Px} {ms : List Mt} (h : RtS w wx B K ci cb vi vb mi m1 m2 px qx ms) (hb : Below wx.heap.size wx wy) : RtS w wy B K ci cb vi vb mi m1 m2 px qx ms :=
  ⟨h.bel.trans (hb.mono h.hB), Nat.le_trans h.hB hb.size, (hb.block _ h.ib.lt).trans h.ib, (hb.block _ h.bb.lt).trans h.bb, h.pi.below hb, h.pb.below hb, h.mi.below hb, h.m1.below hb, h.m2.below hb⟩
theorem prow_put {w : World} {v : Value} {px : List Px} {Q : Nat} {t : TypeId} {cs : Array Value} (h : PRow w v px) (hb : Blk w Q t cs) (h3 : cs.size ≤ 3) (i : Nat) (u : Value) : PRow (w.setCell ⟨Q, i, none⟩ u) v px := by
  obtain ⟨x, c, rfl, h1, h2, hz, h4⟩ := h
  refine ⟨x, c, rfl, h1, h2, hz, fun hne => ?_⟩
  obtain ⟨b, off, rfl, hc⟩ := h4 hne
  have hlen : 0 < px.length := List.length_pos_iff.2 hne
  have hbq : Q ≠ b := by
    rintro rfl
    have h0 := (hc 0 hlen).2.2.2
    have h5 := hb.cell (off + 0 * 4 + 3)
    rw [h0] at h5
    rw [Array.getElem?_eq_none (by omega)] at h5
    cases h5
  refine ⟨b, off, rfl, fun j hj => ?_⟩
  obtain ⟨c1, c2, c3, c4⟩ := hc j hj
  exact ⟨(World.cell?_setCell_far w _ ⟨b, _, none⟩ u hbq).trans c1, (World.cell?_setCell_far w _ ⟨b, _, none⟩ u hbq).trans c2, (World.cell?_setCell_far w _ ⟨b, _, none⟩ u hbq).trans c3, (World.cell?_setCell_far w _ ⟨b, _, none⟩ u hbq).trans c4⟩
theorem mrow_put {w : World} {v : Value} {ms : List Mt} {Q : Nat} {t : TypeId} {cs : Array Value} (h : MRow w v ms) (hb : Blk w Q t cs) (hs : ∀ (j : Nat) (s : ByteArray), cs[j]? ≠ some (.string s)) (i : Nat) (u : Value) : MRow (w.setCell ⟨Q, i, none⟩ u) v ms := by
  obtain ⟨x, c, rfl, h1, h2, hz, h4⟩ := h
  refine ⟨x, c, rfl, h1, h2, hz, fun hne => ?_⟩
  obtain ⟨b, off, rfl, hc⟩ := h4 hne
  have hlen : 0 < ms.length := List.length_pos_iff.2 hne
  have hbq : Q ≠ b := by
    rintro rfl
    have h0 := (hc 0 hlen).1
    have h5 := hb.cell (off + 0 * 2)
    rw [h0] at h5
    exact hs _ _ h5.symm
  refine ⟨b, off, rfl, fun j hj => ?_⟩
  obtain ⟨c1, c2⟩ := hc j hj
  exact ⟨(World.cell?_setCell_far w _ ⟨b, _, none⟩ u hbq).trans c1, (World.cell?_setCell_far w _ ⟨b, _, none⟩ u hbq).trans c2⟩
theorem no_str (a b : Int) (x : Option Addr) (n c : Nat) (j : Nat) (s : ByteArray) : (#[Value.int .i64 a, .int .i64 b, .slice x n c] : Array Value)[j]? ≠ some (.string s) := by
  match j with
  | 0 => intro h; cases h
  | 1 => intro h; cases h
  | 2 => intro h; cases h
  | j + 3 => intro h; rw [Array.getElem?_eq_none (by simp)] at h; cases h
end Go.Proofs.YtakkdgcmeeilbaaDoor
