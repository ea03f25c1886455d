/-
  Walk: the data of a block, in the program.
-/
import Derived.Test.YthbejefodelpkaaGreatZI6
import Derived.Deep.LoopGhost
namespace Go.Proofs.YthbejefodelpkaaGreat
open Go.RowKit

theorem matT_len {dl : List Nat} {most : Nat} {out o : List UInt8} {s : Nat} {b b' : List Bool} (h : matT dl most out s b = .ok (o, b')) : b'.length < b.length ∧ o.length ≤ most := by
  have hcl : ∀ n (out : List UInt8) d, (copyB out n d).length = out.length + n := by
    intro n
    induction n with
    | zero => intro out d; rfl
    | succ n ih => intro out d; rw [copyB, ih]; simp; omega
  unfold matT at h
  split at h
  · cases h
  · rename_i x b1 hn1
    split at h
    · cases h
    · rename_i t b2 hn2
      split at h
      · cases h
      · split at h
        · cases h
        · rename_i y b3 hn3
          split at h
          · cases h
          · split at h
            · cases h
            · cases h
              have h1 := numT_ok hn1
              have h2 := symT_len hn2
              have h3 := numT_ok hn3
              rw [h1.2.1] at h2
              rw [h3.2.1, hcl]
              simp at h2 ⊢
              omega
theorem matT_err {dl : List Nat} {most : Nat} {out : List UInt8} {s k : Nat} {b : List Bool} (h : matT dl most out s b = .error k) : k ≠ 0 := by
  unfold matT at h
  split at h
  · rename_i hn; cases h; exact numT_err hn
  · split at h
    · rename_i hn; cases h; exact symT_err hn
    · split at h
      · cases h; decide
      · split at h
        · rename_i hn; cases h; exact numT_err hn
        · split at h
          · cases h; decide
          · split at h <;> cases h
            decide

set_option maxRecDepth 100000 in
set_option maxHeartbeats 8000000 in
theorem data_any (s : ByteArray) (p most B zb lb db : Nat) (out : List UInt8) (ll dl : List Nat) (w : World) (hz : ZO w B zb s p most out) (hl : Dec w lb ll) (hd : Dec w db dl) (hll : ll.length ≤ 400) (hdl : dl.length ≤ 400) (hs : s.size ≤ 1000000000000000) (hp : p ≤ 8 * s.size) (hm : most ≤ 1048576) (ho : out.length ≤ most) :
    Calls Tryz.prog 157 #[.pointer (some ⟨zb, 0, none⟩), .pointer (some ⟨lb, 0, none⟩), .pointer (some ⟨db, 0, none⟩)] w fun e w' => MatOk s most B zb (datT ll dl most out (bitsAt s p)) e w' ∧ FZ B w w' := by
  have hbl := bitsAt_length s p
  have HD : Hid (datGo ll dl most (8 * s.size - p + 1) out (bitsAt s p) = datT ll dl most out (bitsAt s p)) := by show _ = _; unfold datT; rw [hbl]
  clear hbl
  go_enter Tryz.func157, Tryz.ntmps157
  go_wp2_with fail
  go_loopg [7] (8 * s.size - p + 1) (fun k v7 wr => ∃ (q : Nat) (o : List UInt8), q ≤ 8 * s.size ∧ 8 * s.size - q < k ∧ o.length ≤ most ∧ Hid (datGo ll dl most k o (bitsAt s q) = datT ll dl most out (bitsAt s p)) ∧ ZO wr B zb s q most o ∧ FZ B w wr)
  case atStart => exact ⟨p, out, hp, by omega, ho, HD, hz, Fr.refl _ _ _⟩
  case round =>
    clear HD hz
    obtain ⟨q, o, hq, hk, hol, hdat, hzo, hfr⟩ := hrel
    obtain ⟨f, hf⟩ : ∃ f, gk = f + 1 := ⟨gk - 1, by omega⟩
    have hdd := hdat.out
    rw [hf] at hdd
    unfold datGo at hdd
    have HF := Lib.hid hf
    have hk2 : 8 * s.size - q ≤ f := by omega
    clear hf hdat hk
    obtain ⟨v, hzb, hrow, hB⟩ := hzo
    have hlw := hl.fr hfr (by decide) (by decide)
    have hdw := hd.fr hfr (by decide) (by decide)
    go_wp2_with fail
    refine (symbol_any s q most zb lb v ll _ hzb hlw hll hs hq).mono ?_
    rintro e w1 ⟨hst, hf1⟩
    have hfz1 := hfr.trans (fz_of hf1 hB)
    have hrow1 := hf1.owns hrow (by decide)
    have hdw1 := hdw.fr hf1 (by decide) (by decide)
    clear hlw hdw hrow hzb hfr hf1
    cases hn1 : symT ll (bitsAt s q) with
    | error k =>
      rw [hn1] at hst hdd
      obtain ⟨rfl, -⟩ := hst
      have HE : Hid (datT ll dl most out (bitsAt s p) = .error k) := hdd.symm
      have hk := symT_err hn1
      have hk1 : ((k : Int) != 0) = true := by simp; omega
      clear hn1 hdd
      go_wp2_with fail
      go_ret
      refine ⟨?_, hfz1⟩
      rw [HE.out]; rfl
    | ok xb =>
      obtain ⟨y, b1⟩ := xb
      have hlen1 := symT_len hn1
      rw [bitsAt_length] at hlen1
      rw [hn1] at hst hdd
      obtain ⟨rfl, q1, hq1, rfl, hz1⟩ := hst
      rw [bitsAt_length] at hlen1
      simp only at hdd
      clear hn1
      obtain ⟨x3, c3, rfl⟩ := row_shape hrow1
      by_cases h256 : y < 256
      · rw [if_pos h256] at hdd
        have d1 : decide ((y : Int) < 256) = true := by simp; omega
        have k2 := hz1.cell 2
        have k3 := hz1.cell 3
        simp [zc] at k2 k3
        by_cases hlim : most ≤ o.length
        · rw [if_pos hlim] at hdd
          have HE : Hid (datT ll dl most out (bitsAt s p) = .error 3) := hdd.symm
          have d2 : decide (most ≤ o.length) = true := by simp; omega
          clear hdd
          go_wp2_with fail
          go_quiet (fail)
          go_wp2_with fail
          go_ret
          refine ⟨?_, hfz1.drewN _⟩
          rw [HE.out]; rfl
        · rw [if_neg hlim] at hdd
          have HE := Lib.hid hdd
          have d2 : decide (most ≤ o.length) = false := by simp; omega
          clear hdd
          go_wp2_with fail
          go_quiet (fail)
          have hz2 := hz1.drewN nq
          have hrow2 : BRow (w1.drewN nq) B 5 (.slice x3 o.length c3) o := hrow1
          have hfz2 : FZ B w (w1.drewN nq) := hfz1.drewN nq
          have hsz2 : B ≤ (w1.drewN nq).heap.size := Nat.le_of_lt (Nat.lt_of_le_of_lt hB hz1.lt)
          clear hz1 hrow1 hfz1 k2 k3 d2
          generalize w1.drewN nq = w2 at *
          have k32 := hz2.cell 3
          simp [zc] at k32
          go_wp2_with (at_builtin; refine wpList_app el_u8 hrow2 hsz2 rfl rfl rfl (m := 0) rfl (by simp [Value.oneCell']) rfl (by omega) (by unfold maxLen; omega) ?_)
          intro r2 cap2 w3 ho3 hg3 _
          have hne : some zb ≠ (Value.slice x3 o.length c3).ownBlock := own_blk_ne' hz2 hrow2.2 (by decide)
          have hz3 : Blk w3 zb 141 (zc s q1 most (.slice x3 o.length c3)) := (hg3.block zb (by simp; exact Nat.lt_succ_of_lt hz2.lt) hne).trans (hz2.alloc _)
          have k33 := hz3.cell 3
          have f33 := hz3.frozen 3
          simp [zc] at k33
          have hrow3 := brow_more ho3 [UInt8.ofNat y] (by
            have : (UInt8.ofNat y).toNat = y := by rw [UInt8.toNat_ofNat']; omega
            simp [bcells, this]) rfl
          have hfz3 : FZ B w w3 := (hfz2.alloc _).grown (World.ownsRow.alloc hrow2 _) (Nat.le_refl _) (by decide) hg3
          have hput := hz3.put 3 (.slice (some ⟨r2, 0, none⟩) (o.length + 1) cap2)
          have hf4 : Fr zb [141] w3 (w3.setCell ⟨zb, 3, none⟩ (.slice (some ⟨r2, 0, none⟩) (o.length + 1) cap2)) := (Fr.refl _ _ _).put hz3 (Nat.le_refl _) (by simp) 3 _
          have hrow4 := hf4.owns hrow3 (by decide)
          have hfz4 := hfz3.put hz3 hB (by simp) 3 (.slice (some ⟨r2, 0, none⟩) (o.length + 1) cap2)
          have HPUT := Lib.hid hput
          have HROW := Lib.hid hrow4
          have HFZ := Lib.hid hfz4
          clear hput hrow4 hfz4 hf4 hfz3 hrow3 ho3 hg3 hz3 hz2 hrow2 hfz2 hsz2 k32 hne
          go_wp2_with fail
          go_roundg f
          case measure => have := HF.out; omega
          case rel =>
            refine ⟨q1, _, hq1, by omega, by simp; omega, HE, ⟨_, ?_, HROW.out, hB⟩, HFZ.out⟩
            have := HPUT.out
            simpa [zc] using this
      · rw [if_neg h256] at hdd
        have d1 : decide ((y : Int) < 256) = false := by simp; omega
        by_cases he : y = 256
        · subst he
          rw [if_pos rfl] at hdd
          have HE := Lib.hid hdd.symm
          clear hdd
          go_wp2_with fail
          go_ret
          refine ⟨?_, hfz1⟩
          rw [HE.out]
          exact ⟨rfl, q1, hq1, rfl, _, hz1, hrow1, hB⟩
        rw [if_neg he] at hdd
        have d2 : ((y : Int) == 256) = false := by simp; omega
        by_cases hbig : 285 < y
        · rw [if_pos hbig] at hdd
          have HE : Hid (datT ll dl most out (bitsAt s p) = .error 4) := hdd.symm
          have d3 : decide ((285 : Int) < (y : Int)) = true := by simp; omega
          clear hdd
          go_wp2_with fail
          go_ret
          refine ⟨?_, hfz1⟩
          rw [HE.out]; rfl
        rw [if_neg hbig] at hdd
        have d3 : decide ((285 : Int) < (y : Int)) = false := by simp; omega
        go_wp2_with fail
        refine (match_any s q1 most B zb db y o dl _ ⟨_, hz1, hrow1, hB⟩ hdw1 hdl hs hq1 (by omega) (by omega) hm hol).mono ?_
        rintro e w2 ⟨hok, hf2⟩
        have hfz2 := hfz1.trans hf2
        cases hn2 : matT dl most o y (bitsAt s q1) with
        | error k =>
          rw [hn2] at hok hdd
          obtain rfl := hok
          have HE : Hid (datT ll dl most out (bitsAt s p) = .error k) := hdd.symm
          have hk := matT_err hn2
          have hk1 : ((k : Int) != 0) = true := by simp; omega
          clear hn2 hdd
          go_wp2_with fail
          go_ret
          refine ⟨?_, hfz2⟩
          rw [HE.out]; rfl
        | ok ob =>
          obtain ⟨o2, b2⟩ := ob
          obtain ⟨hlen2, hol2⟩ := matT_len hn2
          rw [hn2] at hok hdd
          obtain ⟨rfl, q2, hq2, rfl, hz2⟩ := hok
          rw [bitsAt_length, bitsAt_length] at hlen2
          simp only at hdd
          have HE := Lib.hid hdd
          clear hn2 hdd hz1 hrow1 hdw1
          go_wp2_with fail
          go_roundg f
          case measure => have := HF.out; omega
          case rel => exact ⟨q2, o2, hq2, by omega, hol2, HE, hz2, hfz2⟩
end Go.Proofs.YthbejefodelpkaaGreat
