/-
  Walk: Inflate, in the program.
-/
import Derived.Test.YtppfjofaegbbjaaI14
namespace Go.Proofs.Ytppfjofaegbbjaa
open Go.RowKit

theorem datGo_len (ll dl : List Nat) (most f : Nat) (out o : List UInt8) (b b' : List Bool) (ho : out.length ≤ most) (h : datGo ll dl most f out b = .ok (o, b')) : b'.length < b.length ∧ o.length ≤ most := by
  induction f generalizing out b with
  | zero => cases h
  | succ f ih =>
    unfold datGo at h
    split at h
    · cases h
    · rename_i s b1 hs
      have hl := symT_len hs
      split at h
      · split at h
        · cases h
        · have := ih _ _ (by simp; omega) h
          omega
      · split at h
        · cases h; exact ⟨hl, ho⟩
        · split at h
          · cases h
          · split at h
            · cases h
            · rename_i hm
              have h1 := matT_len hm
              have := ih _ _ h1.2 h
              omega
theorem blkT_len {most : Nat} {out o : List UInt8} {b b' : List Bool} {last : Bool} (ho : out.length ≤ most) (h : blkT most out b = .ok (last, o, b')) : b'.length < b.length ∧ o.length ≤ most := by
  unfold blkT at h
  split at h
  · cases h
  · rename_i l b1 h1
    have h1' := numT_ok h1
    have hb1 : b1.length + 1 ≤ b.length := by rw [h1'.2.1]; simp; omega
    split at h
    · cases h
    · rename_i k b2 h2
      have h2' := numT_ok h2
      have hb2 : b2.length ≤ b1.length := by rw [h2'.2.1]; simp
      split at h
      · cases h
      · rename_i o1 b3 h3
        cases h
        split at h3
        · unfold stoT at h3
          split at h3
          · cases h3
          · rename_i x b4 h4
            have h4' := numT_ok h4
            have hb4 : b4.length ≤ b2.length := by rw [h4'.2.1]; simp
            split at h3
            · cases h3
            · split at h3
              · cases h3
              · split at h3
                · cases h3
                · cases h3
                  rw [List.length_append, pack_length]
                  simp
                  omega
        · split at h3
          · have := datGo_len _ _ _ _ _ _ _ _ ho h3; omega
          · split at h3
            · split at h3
              · cases h3
              · rename_i ll dl b5 hd
                have hdl : b5.length ≤ b2.length := by
                  clear h3
                  rw [dyn0] at hd
                  split at hd
                  · cases hd
                  · rename_i e1
                    have f1 := numT_ok e1
                    unfold dyn1 at hd
                    split at hd
                    · cases hd
                    · rename_i e2
                      have f2 := numT_ok e2
                      unfold dyn2 at hd
                      split at hd
                      · cases hd
                      · rename_i e3
                        have f3 := numT_ok e3
                        unfold dyn3 at hd
                        split at hd
                        · cases hd
                        · split at hd
                          · cases hd
                          · rename_i e4
                            have f4 : ∀ r c b cl b', clGo r c b = .ok (cl, b') → b'.length ≤ b.length := by
                              intro r
                              induction r with
                              | nil => intro c b cl b' h; cases h; exact Nat.le_refl _
                              | cons o r ih =>
                                intro c b cl b' h
                                unfold clGo at h
                                split at h
                                · cases h
                                · rename_i g1
                                  have g2 := numT_ok g1
                                  have g3 := ih _ _ _ _ h
                                  rw [g2.2.1] at g3
                                  simp at g3
                                  omega
                            have f4 := f4 _ _ _ _ _ e4
                            unfold dyn4 at hd
                            split at hd
                            · cases hd
                            · split at hd
                              · cases hd
                              · rename_i e5
                                have f5 : ∀ cl n f acc b l b', lstGo cl n f acc b = .ok (l, b') → b'.length ≤ b.length := by
                                  intro cl n f
                                  induction f with
                                  | zero => intro acc b l b' h; cases h
                                  | succ f ih =>
                                    intro acc b l b' h
                                    unfold lstGo at h
                                    have num : ∀ b k x b2 acc2, numT b k = .ok (x, b2) → lstGo cl n f acc2 b2 = .ok (l, b') → b'.length ≤ b.length := by
                                      intro b k x b2 acc2 g1 g2
                                      have g3 := ih _ _ _ _ g2
                                      rw [(numT_ok g1).2.1] at g3
                                      simp at g3
                                      omega
                                    split at h
                                    · split at h
                                      · cases h; exact Nat.le_refl _
                                      · cases h
                                    · split at h
                                      · cases h
                                      · rename_i hs
                                        have hsl := symT_len hs
                                        split at h
                                        · split at h
                                          · cases h
                                          · split at h
                                            · cases h
                                            · rename_i g1; have := num _ _ _ _ _ g1 h; omega
                                        · split at h
                                          · split at h
                                            · cases h
                                            · rename_i g1; have := num _ _ _ _ _ g1 h; omega
                                          · split at h
                                            · split at h
                                              · cases h
                                              · rename_i g1; have := num _ _ _ _ _ g1 h; omega
                                            · have := ih _ _ _ _ h; omega
                                have f5 := f5 _ _ _ _ _ _ _ e5
                                split at hd
                                · cases hd
                                · split at hd
                                  · cases hd
                                    rw [f3.2.1, f2.2.1, f1.2.1] at f4
                                    simp at f4
                                    omega
                                  · cases hd
                have := datGo_len _ _ _ _ _ _ _ _ ho h3
                omega
            · cases h3
theorem blkT_err {most : Nat} {out : List UInt8} {b : List Bool} {k : Nat} (h : blkT most out b = .error k) : k ≠ 0 := by
  unfold blkT at h
  split at h
  · rename_i hs; cases h; exact numT_err hs
  · split at h
    · rename_i hs; cases h; exact numT_err hs
    · split at h
      · rename_i h3
        cases h
        split at h3
        · exact stoT_err h3
        · split at h3
          · exact datT_err h3
          · split at h3
            · split at h3
              · rename_i hs; cases h3; exact dynT_err hs
              · exact datT_err h3
            · cases h3; decide
      · cases h
def infR (n : Nat) (r : Except Nat (List UInt8 × List Bool)) : Except Nat (List UInt8 × Nat) :=
  match r with
  | .error e => .error e
  | .ok (o, b) => .ok (o, (8 * n - b.length + 7) / 8)
theorem infP_eq (most : Nat) (l : List UInt8) : infP most l = infR l.length (infGo most (8 * l.length + 1) [] (unp l)) := rfl
/-- The limit that counts. -/
def mostN (m : Int) : Nat := (min (max m 0) 1048576).toNat
theorem mostN_le (m : Int) : mostN m ≤ 1048576 := by unfold mostN; omega
def InfOk (r : Except Nat (List UInt8 × Nat)) (e : Ending) : Prop :=
  match r with
  | .error k => e = .returned (.tuple #[.string ⟨#[]⟩, .int .i64 0, .int .i64 k])
  | .ok (o, u) => e = .returned (.tuple #[.string ⟨o.toArray⟩, .int .i64 u, .int .i64 0])

set_option maxRecDepth 100000 in
set_option maxHeartbeats 8000000 in
theorem inflate_any (s : ByteArray) (m : Int) (w : World) (hs : s.size ≤ 1000000000000000) :
    Calls Try.prog 25 #[.string s, .int .i64 m] w fun e w' => InfOk (infP (mostN m) s.data.toList) e ∧ Below w.heap.size w w' := by
  have hM := mostN_le m
  obtain ⟨M, hMM⟩ : ∃ M, mostN m = M := ⟨_, rfl⟩
  have HMM := Lib.hid hMM
  rw [hMM] at hM ⊢
  have HM1 : Hid ((if 1048576 < if m < 0 then 0 else m then 1048576 else if m < 0 then 0 else m) = (M : Int)) := by
    show _ = _
    unfold mostN at hMM
    by_cases h1 : m < 0
    · rw [if_pos h1, if_neg (by decide)]; omega
    · rw [if_neg h1]
      split <;> omega
  have H0 : Hid (infGo M (8 * s.size + 1) [] (bitsAt s 0) = infGo M (8 * s.data.toList.length + 1) [] (unp s.data.toList)) := by
    show _ = _
    rw [show s.data.toList.length = s.size from by simp]
    rfl
  obtain ⟨r0, hr0⟩ : ∃ r0, infGo M (8 * s.data.toList.length + 1) [] (unp s.data.toList) = r0 := ⟨_, rfl⟩
  have HP : Hid (infP M s.data.toList = infR s.size r0) := by
    show _ = _
    rw [infP_eq, hr0, show s.data.toList.length = s.size from by simp]
  rw [hr0] at H0
  clear hr0 hMM
  have hz0 := Blk.new w 58 (zc s 0 M (.slice none 0 0))
  have HZ0 := Lib.hid hz0
  clear hz0
  have HB0 : Hid (Below w.heap.size w (w.alloc (.cells (zc s 0 M (.slice none 0 0)) 58))) := (Below.refl _ _).alloc (Nat.le_refl _) _
  have hsz : (w.alloc (.cells (zc s 0 M (.slice none 0 0)) 58)).heap.size = w.heap.size + 1 := by simp
  have HSZ := Lib.hid hsz
  clear hsz
  go_enter Try.func25, Try.ntmps25
  go_upto_block 0 with fail
  rw [HM1.out]
  generalize (if m < 0 then (0 : Int) else m) = m1
  have hz0 := HZ0.out
  have hb0 := HB0.out
  have hsz := HSZ.out
  clear HZ0 HB0 HM1 HSZ
  change Code.wp _ _ _ _ (w.alloc (.cells (zc s 0 M (.slice none 0 0)) 58))
  generalize w.alloc (.cells (zc s 0 M (.slice none 0 0)) 58) = w1 at hz0 hb0 hsz ⊢
  obtain ⟨zb, hzb⟩ : ∃ k, w.heap.size = k := ⟨_, rfl⟩
  rw [hzb] at hz0 hb0 ⊢
  have HZB := Lib.hid hzb
  clear hzb hsz
  have hzo0 : ZO w1 zb zb s 0 M [] := ⟨_, hz0, ⟨rfl, .inl ⟨rfl, rfl⟩⟩, Nat.le_refl _⟩
  clear hz0
  go_wp2_with fail
  go_loopg [8] (8 * s.size + 1) (fun k v8 wr => ∃ (q : Nat) (o : List UInt8), q ≤ 8 * s.size ∧ 8 * s.size - q < k ∧ o.length ≤ M ∧ Hid (infGo M k o (bitsAt s q) = r0) ∧ ZO wr zb zb s q M o ∧ Below zb w wr)
  case atStart => exact ⟨0, [], Nat.zero_le _, by omega, Nat.zero_le _, H0, hzo0, hb0⟩
  case round =>
    clear hzo0 hb0 H0
    obtain ⟨q, o, hq, hk, hol, hinf, hzo, hbw⟩ := hrel
    obtain ⟨f, hf⟩ : ∃ f, gk = f + 1 := ⟨gk - 1, by omega⟩
    have hii := hinf.out
    rw [hf] at hii
    unfold infGo at hii
    have HF := Lib.hid hf
    have hk2 : 8 * s.size - q ≤ f := by omega
    clear hf hinf hk
    have HII := Lib.hid hii
    clear hii
    go_wp2_with fail
    refine (block_any s q M zb zb o _ hzo hs hq hM hol).mono ?_
    rintro e w2 ⟨hok, hf2⟩
    have hle : zb ≤ wr.heap.size := by obtain ⟨v, h1, _, _⟩ := hzo; exact Nat.le_of_lt h1.lt
    have hb2 : Below zb w w2 := hbw.trans (hf2.below hle)
    have hii := HII.out
    clear HII hbw hf2 hzo hle
    cases hr : blkT M o (bitsAt s q) with
    | error k =>
      rw [hr] at hok hii
      obtain rfl := hok
      have HE : Hid (infP M s.data.toList = .error k) := by show _ = _; rw [HP.out, ← hii]; rfl
      have hk := blkT_err hr
      have hk1 : ((k : Int) != 0) = true := by simp; omega
      clear hr hii
      go_wp2_with fail
      go_ret3
      refine ⟨?_, by rw [HZB.out]; exact hb2⟩
      rw [HE.out]; rfl
    | ok lob =>
      obtain ⟨last, o2, b2⟩ := lob
      obtain ⟨hlen, hol2⟩ := blkT_len hol hr
      rw [hr] at hok hii
      obtain ⟨rfl, p2, hp2, rfl, hzo2⟩ := hok
      rw [bitsAt_length, bitsAt_length] at hlen
      simp only at hii
      clear hr
      cases last with
      | false =>
        have HE : Hid (infGo M f o2 (bitsAt s p2) = r0) := hii
        clear hii
        go_wp2_with fail
        go_roundg f
        case measure => have := HF.out; omega
        case rel => exact ⟨p2, o2, hp2, by omega, hol2, HE, hzo2, hb2⟩
      | true =>
        have HE : Hid (infP M s.data.toList = .ok (o2, (p2 + 7) / 8)) := by
          show _ = _
          rw [HP.out, ← hii]
          show Except.ok (o2, (8 * s.size - (bitsAt s p2).length + 7) / 8) = _
          rw [bitsAt_length]
          congr 3
          omega
        clear hii
        obtain ⟨v, hz3, hrow3, -⟩ := hzo2
        have k1 := hz3.cell 1
        have k3 := hz3.cell 3
        simp [zc] at k1 k3
        have hcv : ∀ n, (convert 37 9 v).run Try.prog (w2.drewN n) = .ok (.string ⟨o2.toArray⟩) (w2.drewN n) := fun n =>
          run_str_of Try.underlying37 Try.underlying5 Try.underlying9 (show BRow (w2.drewN n) zb 5 v o2 from hrow3)
        obtain ⟨u, hu⟩ : ∃ u, u = (p2 + 7) / 8 := ⟨_, rfl⟩
        have hu1 : ((p2 : Int) + 7) / 8 = (u : Int) := by omega
        rw [← hu] at HE
        clear hu
        go_wp2_with fail
        go_quiet (fail)
        clear hcv
        go_wp2_with fail
        go_ret3
        refine ⟨?_, by rw [HZB.out]; exact below_drewN hb2 _⟩
        rw [HE.out]
        show Ending.returned _ = Ending.returned _
        rw [← hu1]
        rfl
end Go.Proofs.Ytppfjofaegbbjaa
