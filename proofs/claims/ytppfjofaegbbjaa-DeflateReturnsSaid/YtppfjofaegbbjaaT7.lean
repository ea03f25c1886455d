/-
  Walk: adding a place to the finder.
-/
import Derived.Test.YtppfjofaegbbjaaT6
namespace Go.Proofs.Ytppfjofaegbbjaa
open Go.RowKit

/-- The finder behind the pointer ⟨f, 0⟩, to which all places before p were added. -/
structure Fd (w : World) (B N f hd pv : Nat) (s : ByteArray) (p : Nat) : Prop where
  blk : Blk w f 63 #[.string s, .slice (some ⟨hd, 0, none⟩) N N, .slice (some ⟨pv, 0, none⟩) s.size s.size]
  head : ∃ H, Blk w hd 3 H ∧ ∀ h, h < N → H[h]? = some (.int .i64 (headP s.data.toList p h : Nat))
  prev : ∃ V, Blk w pv 3 V ∧ V.size = s.size ∧ ∀ q, q < p → q + 3 ≤ s.size → V[q]? = some (.int .i64 (headP s.data.toList q (hash3 s.data.toList q) : Nat))
  ne : hd ≠ pv
  hN : Hid (N = 32768)
  bh : B ≤ hd
  bp : B ≤ pv

theorem Fd.drewN {w : World} {B N f hd pv : Nat} {s : ByteArray} {p : Nat} (h : Fd w B N f hd pv s p) (n : Nat) : Fd (w.drewN n) B N f hd pv s p := ⟨h.blk, h.head, h.prev, h.ne, h.hN, h.bh, h.bp⟩
theorem Fd.fr {w w' : World} {B N f hd pv : Nat} {s : ByteArray} {p B' : Nat} {T : List TypeId} (h : Fd w B N f hd pv s p) (hf : Fr B' T w w') (h1 : 63 ∉ T) (h2 : 3 ∉ T) : Fd w' B N f hd pv s p := by
  obtain ⟨H, a, b⟩ := h.head
  obtain ⟨V, c, d, e⟩ := h.prev
  exact ⟨hf.blk h.blk h1, ⟨H, hf.blk a h2, b⟩, ⟨V, hf.blk c h2, d, e⟩, h.ne, h.hN, h.bh, h.bp⟩

theorem hash3_lt (l : List UInt8) (p : Nat) : hash3 l p < 32768 := Nat.mod_lt _ (by decide)

/-- What 'add' leaves. -/
theorem fd_add {w : World} {B N f hd pv : Nat} {s : ByteArray} {p h : Nat} (hF : Fd w B N f hd pv s p) (hp : p + 3 ≤ s.size) (hh : h = hash3 s.data.toList p) (k m : Nat) :
    Fd ((((w.drewN k).setCell ⟨pv, p, none⟩ (.int .i64 (headP s.data.toList p h : Nat))).drewN m).setCell ⟨hd, h, none⟩ (.int .i64 ((p : Int) + 1))) B N f hd pv s (p + 1) ∧
    Fr B [3] w ((((w.drewN k).setCell ⟨pv, p, none⟩ (.int .i64 (headP s.data.toList p h : Nat))).drewN m).setCell ⟨hd, h, none⟩ (.int .i64 ((p : Int) + 1))) := by
  obtain ⟨H, a, b⟩ := hF.head
  obtain ⟨V, c, d, e⟩ := hF.prev
  have hfp : f ≠ pv := Blk.apart hF.blk c (by decide)
  have hfh : f ≠ hd := Blk.apart hF.blk a (by decide)
  have hne := hF.ne
  have hlt : h < N := by rw [hh, hF.hN.out]; exact hash3_lt _ _
  have f1 := (((Fr.refl B [3] w).drewN k).put (c.drewN k) hF.bp (by simp) p (.int .i64 (headP s.data.toList p h : Nat))).drewN m
  have b1 := (((a.drewN k).other (p := ⟨pv, p, none⟩) hne (.int .i64 (headP s.data.toList p h : Nat))).drewN m)
  refine ⟨⟨?_, ?_, ?_, hne, hF.hN, hF.bh, hF.bp⟩, f1.put b1 hF.bh (by simp) h _⟩
  · exact Blk.other (((hF.blk.drewN k).other (p := ⟨pv, p, none⟩) hfp _).drewN m) (p := ⟨hd, h, none⟩) hfh _
  · refine ⟨_, b1.put h _, fun j hj => ?_⟩
    have hs : h < H.size := by
      have := b h hlt
      rcases Nat.lt_or_ge h H.size with h1 | h1
      · exact h1
      · rw [Array.getElem?_eq_none h1] at this; cases this
    rw [Array.getElem?_setIfInBounds]
    by_cases hj' : h = j
    · subst hj'
      rw [if_pos rfl, if_pos hs]
      have : headP s.data.toList (p + 1) h = p + 1 := by
        unfold headP; rw [if_pos ⟨by simpa using hp, hh.symm⟩]
      rw [this]; rfl
    · rw [if_neg hj', b j hj]
      have : headP s.data.toList (p + 1) j = headP s.data.toList p j := by
        conv => lhs; unfold headP
        rw [if_neg (fun hx => hj' (by rw [hh]; exact hx.2))]
      rw [this]
  · refine ⟨_, ((((c.drewN k).put p _).drewN m).other (p := ⟨hd, h, none⟩) (Ne.symm hne) _), by simpa using d, fun q hq hq3 => ?_⟩
    rw [Array.getElem?_setIfInBounds]
    by_cases hqp : p = q
    · subst hqp
      rw [if_pos rfl, if_pos (by omega), hh]
    · rw [if_neg hqp]
      exact e q (by omega) hq3

theorem fd_skip {w : World} {B N f hd pv : Nat} {s : ByteArray} {p : Nat} (hF : Fd w B N f hd pv s p) (hp : ¬ p + 3 ≤ s.size) : Fd w B N f hd pv s (p + 1) := by
  obtain ⟨H, a, b⟩ := hF.head
  obtain ⟨V, c, d, e⟩ := hF.prev
  refine ⟨hF.blk, ⟨H, a, fun h hh => ?_⟩, ⟨V, c, d, fun q hq hq3 => ?_⟩, hF.ne, hF.hN, hF.bh, hF.bp⟩
  · rw [headP_short _ _ _ (by simpa using hp)]; exact b h hh
  · exact e q (by omega) hq3

set_option maxRecDepth 100000 in
set_option maxHeartbeats 1000000 in
theorem add_any (w : World) (B N f hd pv : Nat) (s : ByteArray) (p : Nat) (hF : Fd w B N f hd pv s p) (hp : p < s.size) (hs : s.size < 1000000000) :
    Calls Try.prog 34 #[.pointer (some ⟨f, 0, none⟩), .int .i64 p] w fun e w' => e = .returned (.tuple #[]) ∧ Fd w' B N f hd pv s (p + 1) ∧ Fr B [3] w w' := by
  have hc0 := hF.blk.cell 0
  have hc1 := hF.blk.cell 1
  have hc2 := hF.blk.cell 2
  simp at hc0 hc1 hc2
  by_cases h3 : p + 3 ≤ s.size
  · obtain ⟨h, hh⟩ : ∃ h, h = hash3 s.data.toList p := ⟨_, rfl⟩
    have hcall := hash_any w f p s _ _ hF.blk h3 hs
    rw [← hh] at hcall
    have HH := Lib.hid hh
    have HC := Lib.hid hcall
    clear hh hcall
    go_enter Try.func34, Try.ntmps34
    go_wp2_with fail
    refine HC.out.mono ?_
    rintro e w1 ⟨rfl, n1, hn1⟩
    have hF1 : Fd w1 B N f hd pv s p := by rw [hn1]; exact hF.drewN n1
    have hf1 : Fr B [3] w w1 := by rw [hn1]; exact (Fr.refl _ _ _).drewN n1
    clear hn1 hF hc0 hc1 hc2 HC
    have hc0 := hF1.blk.cell 0
    have hc1 := hF1.blk.cell 1
    have hc2 := hF1.blk.cell 2
    simp at hc0 hc1 hc2
    obtain ⟨H, a, b⟩ := hF1.head
    obtain ⟨V, c, d, e⟩ := hF1.prev
    have hfin := fd_add hF1 h3 HH.out 0 1
    have hlt : h < N := by have := hash3_lt s.data.toList p; rw [← HH.out] at this; rw [hF1.hN.out]; exact this
    have ch := a.cell h
    rw [b h (by omega)] at ch
    obtain ⟨u0, cv⟩ : ∃ u0, w1.cell? ⟨pv, p, none⟩ = some u0 := ⟨_, (c.cell p).trans (Array.getElem?_eq_getElem (by omega))⟩
    have fv := c.frozen p
    have hfp : f ≠ pv := Blk.apart hF1.blk c (by decide)
    have hpl : (p : Int) < (s.size : Int) := by omega
    generalize headP s.data.toList p h = x at *
    have a2 := (a.other (p := ⟨pv, p, none⟩) hF1.ne (.int .i64 (x : Nat))).drewN 1
    have b2 := (hF1.blk.other (p := ⟨pv, p, none⟩) hfp (.int .i64 (x : Nat))).drewN 1
    have HX := b h (by omega)
    clear b e d hlt
    go_wp2_with fail
    have hlt : (h : Int) < (N : Int) := by have := hash3_lt s.data.toList p; rw [← HH.out] at this; rw [hF1.hN.out]; omega
    go_still_tail 13, (by kernel_rfl)
    clear hlt
    change wpList _ _ _ _ _ w1.drew
    refine wpList_plain rfl fun K hK => ?_
    go_simp
    refine hK _ _ ?_
    clear hK K hc0 hc1 hc2 ch cv fv hpl
    have e0 : (w1.setCell { block := pv, off := p } (Value.int IntKind.i64 ↑x)).drew = ((w1.drewN 0).setCell { block := pv, off := p } (Value.int IntKind.i64 ↑x)).drewN 1 := rfl
    rw [e0]
    have e1 : (w1.setCell { block := pv, off := p } (Value.int IntKind.i64 ↑x)).drewN 1 = ((w1.drewN 0).setCell { block := pv, off := p } (Value.int IntKind.i64 ↑x)).drewN 1 := rfl
    rw [e1] at a2 b2
    generalize ((w1.drewN 0).setCell { block := pv, off := p } (Value.int IntKind.i64 ↑x)).drewN 1 = w2 at *
    have ch := a2.cell h
    rw [HX] at ch
    have fh := a2.frozen h
    have cf := b2.cell 1
    simp at cf
    have hlt : h < N := by have := hash3_lt s.data.toList p; rw [← HH.out] at this; rw [hF1.hN.out]; exact this
    clear HX e0 e1 a2 b2 HH
    go_wp2
    go_end0
    exact ⟨rfl, hfin.1, hf1.trans hfin.2⟩
  · go_enter Try.func34, Try.ntmps34
    go_wp2_with fail
    go_end0
    exact ⟨rfl, fd_skip hF h3, Fr.refl _ _ _⟩
end Go.Proofs.Ytppfjofaegbbjaa
