/-
  Plain: what Decode answers. Walk: png.Decode.
-/
import Derived.Test.YthbejefodelpkaaGreatZG19
import Derived.Test.YthbejefodelpkaaGreatZN
import Derived.Test.YthbejefodelpkaaGreatZJ
namespace Go.Proofs.YthbejefodelpkaaGreat
open Go.RowKit
set_option maxRecDepth 100000

def decP (s : List UInt8) : Except Nat (Nat × Nat × List Px × List Mt) :=
  match chunksP s with
  | .error k => .error k
  | .ok l => match hdrP l with
    | .error k => .error k
    | .ok (W, H, d, c) =>
      if wroP l c = true then .error 24
      else if palP l c = false then .error 4
      else if datOk l = false then .error 4
      else match pixR l W H d c with
        | .error k => .error k
        | .ok px => .ok (W, H, px, entsP l)
def DecOk (r : Except Nat (Nat × Nat × List Px × List Mt)) (e : Ending) (w' : World) : Prop :=
  match r with
  | .error k => e = .returned (.tuple #[.agg (imgI 0 0 (.slice none 0 0)), .slice none 0 0, .int .i64 (k : Nat)])
  | .ok (W, H, px, ms) => ∃ v vm, e = .returned (.tuple #[.agg (imgI W H v), vm, .int .i64 0]) ∧ PRow w' v px ∧ MRow w' vm ms
theorem ckStep_err {r : List UInt8} {k : Nat} (h : ckStep r = .error k) : k ≠ 0 := by
  unfold ckStep at h
  split at h; · cases h; decide
  split at h; · cases h; decide
  split at h; · cases h; decide
  split at h; · cases h; decide
  split at h; · cases h; decide
  cases h
theorem ckGo_err (f : Nat) : ∀ (acc : List Mt) (r : List UInt8) (k : Nat), ckGo f acc r = .error k → k ≠ 0 := by
  induction f with
  | zero => intro acc r k h; unfold ckGo at h; cases h; decide
  | succ f ih =>
    intro acc r k h
    unfold ckGo at h
    cases hs : ckStep r with
    | error e => rw [hs] at h; cases h; exact ckStep_err hs
    | ok x =>
      obtain ⟨c, q⟩ := x
      rw [hs] at h
      simp only at h
      split at h
      · split at h
        · cases h; decide
        · split at h
          · cases h; decide
          · cases h
      · exact ih _ _ _ h
theorem chunksP_err {s : List UInt8} {k : Nat} (h : chunksP s = .error k) : k ≠ 0 := by
  unfold chunksP at h
  split at h
  · exact ckGo_err _ _ _ _ h
  · cases h; decide
theorem hdrP_err {l : List Mt} {k : Nat} (h : hdrP l = .error k) : k ≠ 0 := by
  unfold hdrP at h
  split at h; · cases h; decide
  split at h; · cases h; decide
  split at h; · cases h; decide
  split at h; · cases h; decide
  split at h; · cases h; decide
  split at h; · cases h; decide
  cases h
theorem pixR_err {l : List Mt} {W H d c k : Nat} (h : pixR l W H d c = .error k) : k ≠ 0 := by
  unfold pixR at h
  split at h
  · rename_i hz; cases h; exact zliP_err hz
  · split at h; · cases h; decide
    split at h; · cases h; decide
    split at h
    · cases h; decide
    · cases h
theorem kind_of_hdr {l : List Mt} {W H d c : Nat} (h : hdrP l = .ok (W, H, d, c)) : (1 ≤ W ∧ W ≤ 256) ∧ (1 ≤ H ∧ H ≤ 256) ∧ kindOk d c = true := by
  unfold hdrP at h
  split at h; · cases h
  split at h; · cases h
  split at h; · cases h
  rename_i h1
  split at h; · cases h
  rename_i h2
  split at h; · cases h
  split at h; · cases h
  cases h
  refine ⟨⟨by omega, by omega⟩, ⟨by omega, by omega⟩, by simpa using h2⟩
theorem pal_three {l : List Mt} {c : Nat} (h : palP l c = true) (hc : c = 3) : (datP l plteN).length % 3 = 0 := by
  unfold palP at h
  simp only [Bool.and_eq_true, Bool.not_eq_true'] at h
  obtain ⟨h1, h2, -⟩ := h
  have h1' : ¬ (1 < cntP l plteN ∨ cntP l plteN = 1 ∧ (c = 0 ∨ c = 4) ∨ cntP l plteN = 0 ∧ c = 3) := by simpa [pal1] using h1
  have h2' : ¬ (cntP l plteN = 1 ∧ ((datP l plteN).length % 3 ≠ 0 ∨ (datP l plteN).length < 3 ∨ 768 < (datP l plteN).length)) := by simpa [pal2] using h2
  omega
theorem totP_flat (l : List Mt) : totP l ≤ (l.flatMap ckB).length := by
  unfold totP
  induction l with
  | nil => exact Nat.le_refl _
  | cons c r ih =>
    rw [List.flatMap_cons, List.flatMap_cons, List.length_append, List.length_append, ckB_len]
    omega
theorem jErr_names {l : List Mt} (h : jErr l = 0) : ∀ m ∈ l, nameP m.1 = true ∧ m.2.length ≤ 1048576 := by
  induction l with
  | nil => intro m hm; cases hm
  | cons c r ih =>
    unfold jErr at h
    split at h; · cases h
    rename_i h1
    split at h; · cases h
    rename_i h2
    intro m hm
    rcases List.mem_cons.1 hm with rfl | hm
    · exact ⟨by simpa using h1, by omega⟩
    · exact ih h m hm
theorem chunks_facts {s : List UInt8} {l : List Mt} (h : chunksP s = .ok l) : l.length ≤ s.length ∧ totP l ≤ s.length ∧ ∀ m ∈ l, m.1.length = 4 := by
  obtain ⟨h1, h2, h3, h4, h5⟩ := join_ok (join_chunks h)
  have e : s.length = 8 + (l.flatMap ckB).length := by rw [h5, List.length_append]; rfl
  exact ⟨by have := flat_len l; omega, by have := totP_flat l; omega, fun m hm => name_len (jErr_names h1 m hm).1⟩

set_option maxHeartbeats 8000000 in
theorem decode_any (s : ByteArray) (w : World) (hs : s.size ≤ 100000000) : Calls Tryz.prog 26 #[.string s] w fun e w' => DecOk (decP s.data.toList) e w' ∧ Below w.heap.size w w' := by
  have hsl : s.data.toList.length = s.size := by simp
  have HCH := Lib.hid (fun w => chunks_any s w hs)
  have HDE : Hid (decP s.data.toList = match chunksP s.data.toList with
    | .error k => .error k
    | .ok l => match hdrP l with
      | .error k => .error k
      | .ok (W, H, d, c) =>
        if wroP l c = true then .error 24
        else if palP l c = false then .error 4
        else if datOk l = false then .error 4
        else match pixR l W H d c with
          | .error k => .error k
          | .ok px => .ok (W, H, px, entsP l)) := rfl
  have HFC : Hid (∀ l, chunksP s.data.toList = .ok l → l.length ≤ 1000000000 ∧ totP l ≤ 1000000000 ∧ ∀ m ∈ l, m.1.length = 4) := fun l h => by
    obtain ⟨h1, h2, h3⟩ := chunks_facts h
    exact ⟨by omega, by omega, h3⟩
  have HFE := Lib.hid (fun k (h : chunksP s.data.toList = .error k) => chunksP_err h)
  obtain ⟨cr, hcr⟩ : ∃ r, chunksP s.data.toList = r := ⟨_, rfl⟩
  rw [hcr] at HCH HDE HFC HFE
  have HKI := Lib.hid (Blk.new w 36 (imgI 0 0 (.slice none 0 0)))
  have HBE := Lib.hid ((Below.refl w.heap.size w).alloc (Nat.le_refl _) (.cells (imgI 0 0 (.slice none 0 0)) 36))
  clear hcr hsl hs
  go_enter Tryz.func26, Tryz.ntmps26
  go_upto_region 1 with fail
  have e0 : w.alloc (.cells #[.int .i64 0, .int .i64 0, .slice none 0 0] 36) = w.alloc (.cells (imgI 0 0 (.slice none 0 0)) 36) := rfl
  rw [e0]
  clear e0
  generalize w.alloc (.cells (imgI 0 0 (.slice none 0 0)) 36) = w0 at *
  generalize hB : w.heap.size = B at *
  have HB := Lib.hid hB
  clear hB
  go_wp2_with fail
  refine (HCH.out _).mono ?_
  rintro e w1 ⟨hce, hb1⟩
  have HI1 := Lib.hid (HKI.out.keep hb1)
  have HB1 := Lib.hid (HBE.out.trans (hb1.mono (Nat.le_of_lt HKI.out.lt)))
  clear hb1 HKI HBE HCH
  cases cr with
  | error k =>
    have hce : e = .returned (.tuple #[.slice none 0 0, .int .i64 k]) := hce
    subst hce
    have hk0 := HFE.out k rfl
    have dk : ((k : Int) != 0) = true := by simp; omega
    have HE : Hid (decP s.data.toList = .error k) := HDE.out
    clear hk0 HDE HFC HFE
    go_wp2_with (refine wpList_rset_same rfl 36 (.tmp 2) (.tmp 16) rfl rfl B (imgI 0 0 (.slice none 0 0)) (by rfl) (by rfl) 36 (by exact HI1.out) (imgI_inf _ _ _) (imgI_one _ _ _ rfl) ?_)
    refine bodyPost_ret (v := .tuple #[.agg (imgI 0 0 (.slice none 0 0)), .slice none 0 0, .int .i64 k]) (results_ctt rfl _ _ B 36 (imgI 0 0 (.slice none 0 0)) (0, 0) _ _ _ rfl rfl rfl HI1.out Tryz.underlying36 rfl (imgI_inf _ _ _)) rfl ⟨?_, by rw [HB.out]; exact HB1.out⟩
    rw [HE.out]
    rfl
  | ok l =>
  obtain ⟨v, rfl, hrow⟩ := hce
  obtain ⟨hl9, ht9, hn4⟩ := HFC.out l rfl
  have HR1 := Lib.hid hrow
  have HHD := Lib.hid (fun w h => readHeader_any v l w h hl9 hn4)
  have HWR := Lib.hid (fun c w h => wrongOrder_any v l c w h hl9)
  have HPA := Lib.hid (fun c w h => palettes_any v l c w h hl9 ht9)
  have HDR := Lib.hid (fun w h => dataRight_any v l w h hl9)
  have HPX := Lib.hid (fun W H d c w h h1 h2 h3 h4 => readPixels_any v l W H d c w h ht9 h1 h2 h3 h4)
  have HEN := Lib.hid (fun w h => readEntries_any v l w h ht9)
  have HHF := Lib.hid (fun W H d c (h : hdrP l = .ok (W, H, d, c)) => kind_of_hdr h)
  have HHE := Lib.hid (fun k (h : hdrP l = .error k) => hdrP_err h)
  replace HDE : Hid (decP s.data.toList = match hdrP l with
      | .error k => .error k
      | .ok (W, H, d, c) =>
        if wroP l c = true then .error 24
        else if palP l c = false then .error 4
        else if datOk l = false then .error 4
        else match pixR l W H d c with
          | .error k => .error k
          | .ok px => .ok (W, H, px, entsP l)) := HDE.out
  obtain ⟨hr, hhr⟩ : ∃ r, hdrP l = r := ⟨_, rfl⟩
  obtain ⟨xv, cv, rfl, -⟩ := id hrow
  have HHD1 := Lib.hid (HHD.out _ HR1.out)
  rw [hhr] at HHD1 HDE HHF HHE
  clear hrow hl9 ht9 hn4 HFC HFE HHD hhr
  go_wp2_with fail
  refine HHD1.out.mono ?_
  rintro e w2 ⟨hce, hb2⟩
  have HI2 := Lib.hid (HI1.out.keep hb2)
  have HB2 := Lib.hid (HB1.out.trans (hb2.mono (Nat.le_of_lt HI1.out.lt)))
  have HR2 := Lib.hid (HR1.out.below hb2)
  clear hb2 HI1 HB1 HR1 HHD1
  cases hr with
  | error k =>
    have hce : e = .returned (.tuple #[.agg #[.int .i64 0, .int .i64 0, .int .i64 0, .int .i64 0], .int .i64 k]) := hce
    subst hce
    have hk0 := HHE.out k rfl
    have dk : ((k : Int) != 0) = true := by simp; omega
    have HE : Hid (decP s.data.toList = .error k) := HDE.out
    have HI3 := Lib.hid (HI2.out.alloc (.cells #[.int .i64 0, .int .i64 0, .int .i64 0, .int .i64 0] 76))
    have HB3 := Lib.hid (HB2.out.alloc (Nat.le_of_lt HI2.out.lt) (.cells #[.int .i64 0, .int .i64 0, .int .i64 0, .int .i64 0] 76))
    clear hk0 HDE HHF HHE
    go_wp2_with (refine wpList_rset_same rfl 36 (.tmp 2) (.tmp 25) rfl rfl B (imgI 0 0 (.slice none 0 0)) (by rfl) (by rfl) 36 (by exact HI3.out) (imgI_inf _ _ _) (imgI_one _ _ _ rfl) ?_)
    refine bodyPost_ret (v := .tuple #[.agg (imgI 0 0 (.slice none 0 0)), .slice none 0 0, .int .i64 k]) (results_ctt rfl _ _ B 36 (imgI 0 0 (.slice none 0 0)) (0, 0) _ _ _ rfl rfl rfl HI3.out Tryz.underlying36 rfl (imgI_inf _ _ _)) rfl ⟨?_, by rw [HB.out]; exact HB3.out⟩
    rw [HE.out]
    rfl
  | ok q =>
  obtain ⟨W, H, d, c⟩ := q
  have hce : e = .returned (.tuple #[.agg #[.int .i64 (W : Int), .int .i64 (H : Int), .int .i64 (d : Int), .int .i64 (c : Int)], .int .i64 0]) := hce
  subst hce
  obtain ⟨hW, hH, hkd⟩ := HHF.out W H d c rfl
  simp only at HDE
  have HK3 := Lib.hid (Blk.new w2 76 (hdC W H d c))
  have HI3 := Lib.hid (HI2.out.alloc (.cells (hdC W H d c) 76))
  have HB3 := Lib.hid (HB2.out.alloc (Nat.le_of_lt HI2.out.lt) (.cells (hdC W H d c) 76))
  have HR3 : Hid (MRow (w2.alloc (.cells (hdC W H d c) 76)) (.slice xv l.length cv) l) := HR2.out.below ((Below.refl _ _).alloc (Nat.le_refl _) _)
  have HBJ : Hid (B < w2.heap.size) := HI2.out.lt
  unfold hdC at HK3 HI3 HB3 HR3
  clear HI2 HB2 HR2 HHF HHE
  go_upto_region 5 with fail
  generalize w2.alloc (.cells #[.int .i64 (W : Int), .int .i64 (H : Int), .int .i64 (d : Int), .int .i64 (c : Int)] 76) = w3 at *
  generalize w2.heap.size = J at *
  have k3 : w3.cell? ⟨J, 3, none⟩ = some (.int .i64 (c : Int)) := HK3.out.cell 3
  have HWR1 := Lib.hid (HWR.out c _ HR3.out)
  obtain ⟨wb, hwb⟩ : ∃ b, wroP l c = b := ⟨_, rfl⟩
  rw [hwb] at HWR1 HDE
  clear HWR hwb
  go_wp2_with fail
  refine HWR1.out.mono ?_
  rintro e w4 ⟨rfl, hb4⟩
  clear k3 HWR1
  have HK4 := Lib.hid (HK3.out.keep hb4)
  have HI4 := Lib.hid (HI3.out.keep hb4)
  have HB4 := Lib.hid (HB3.out.trans (hb4.mono (Nat.le_of_lt HI3.out.lt)))
  have HR4 := Lib.hid (HR3.out.below hb4)
  clear hb4 HK3 HI3 HB3 HR3
  cases wb with
  | true =>
    have HE : Hid (decP s.data.toList = .error 24) := by show _ = _; rw [HDE.out]; rfl
    clear HDE
    go_wp2_with (refine wpList_rset_same rfl 36 (.tmp 2) (.tmp 31) rfl rfl B (imgI 0 0 (.slice none 0 0)) (by rfl) (by rfl) 36 (by exact HI4.out) (imgI_inf _ _ _) (imgI_one _ _ _ rfl) ?_)
    refine bodyPost_ret (v := .tuple #[.agg (imgI 0 0 (.slice none 0 0)), .slice none 0 0, .int .i64 24]) (results_ctt rfl _ _ B 36 (imgI 0 0 (.slice none 0 0)) (0, 0) _ _ _ rfl rfl rfl HI4.out Tryz.underlying36 rfl (imgI_inf _ _ _)) rfl ⟨?_, by rw [HB.out]; exact HB4.out⟩
    rw [HE.out]
    rfl
  | false =>
  have k3 : w4.cell? ⟨J, 3, none⟩ = some (.int .i64 (c : Int)) := HK4.out.cell 3
  have HPA1 := Lib.hid (HPA.out c _ HR4.out)
  obtain ⟨pb, hpb⟩ : ∃ b, palP l c = b := ⟨_, rfl⟩
  have HPB := Lib.hid (fun (h : pb = true) => pal_three (hpb.trans h))
  rw [hpb] at HPA1 HDE
  clear HPA hpb
  go_wp2_with fail
  refine HPA1.out.mono ?_
  rintro e w5 ⟨rfl, hb5⟩
  clear k3 HPA1
  have HK5 := Lib.hid (HK4.out.keep hb5)
  have HI5 := Lib.hid (HI4.out.keep hb5)
  have HB5 := Lib.hid (HB4.out.trans (hb5.mono (Nat.le_of_lt HI4.out.lt)))
  have HR5 := Lib.hid (HR4.out.below hb5)
  clear hb5 HK4 HI4 HB4 HR4
  cases pb with
  | false =>
    have HE : Hid (decP s.data.toList = .error 4) := by show _ = _; rw [HDE.out]; rfl
    clear HDE
    go_wp2_with (refine wpList_rset_same rfl 36 (.tmp 2) (.tmp 42) rfl rfl B (imgI 0 0 (.slice none 0 0)) (by rfl) (by rfl) 36 (by exact HI5.out) (imgI_inf _ _ _) (imgI_one _ _ _ rfl) ?_)
    refine bodyPost_ret (v := .tuple #[.agg (imgI 0 0 (.slice none 0 0)), .slice none 0 0, .int .i64 4]) (results_ctt rfl _ _ B 36 (imgI 0 0 (.slice none 0 0)) (0, 0) _ _ _ rfl rfl rfl HI5.out Tryz.underlying36 rfl (imgI_inf _ _ _)) rfl ⟨?_, by rw [HB.out]; exact HB5.out⟩
    rw [HE.out]
    rfl
  | true =>
  have HDR1 := Lib.hid (HDR.out _ HR5.out)
  obtain ⟨db, hdb⟩ : ∃ b, datOk l = b := ⟨_, rfl⟩
  rw [hdb] at HDR1 HDE
  clear HDR hdb
  go_wp2_with fail
  refine HDR1.out.mono ?_
  rintro e w6 ⟨rfl, hb6⟩
  clear HDR1
  have HK6 := Lib.hid (HK5.out.keep hb6)
  have HI6 := Lib.hid (HI5.out.keep hb6)
  have HB6 := Lib.hid (HB5.out.trans (hb6.mono (Nat.le_of_lt HI5.out.lt)))
  have HR6 := Lib.hid (HR5.out.below hb6)
  clear hb6 HK5 HI5 HB5 HR5
  cases db with
  | false =>
    have HE : Hid (decP s.data.toList = .error 4) := by show _ = _; rw [HDE.out]; rfl
    clear HDE
    go_wp2_with (refine wpList_rset_same rfl 36 (.tmp 2) (.tmp 42) rfl rfl B (imgI 0 0 (.slice none 0 0)) (by rfl) (by rfl) 36 (by exact HI6.out) (imgI_inf _ _ _) (imgI_one _ _ _ rfl) ?_)
    refine bodyPost_ret (v := .tuple #[.agg (imgI 0 0 (.slice none 0 0)), .slice none 0 0, .int .i64 4]) (results_ctt rfl _ _ B 36 (imgI 0 0 (.slice none 0 0)) (0, 0) _ _ _ rfl rfl rfl HI6.out Tryz.underlying36 rfl (imgI_inf _ _ _)) rfl ⟨?_, by rw [HB.out]; exact HB6.out⟩
    rw [HE.out]
    rfl
  | true =>
  have HPX1 := Lib.hid (HPX.out W H d c _ HR6.out hW hH hkd (HPB.out (by trivial)))
  replace HDE : Hid (decP s.data.toList = match pixR l W H d c with
          | .error k => .error k
          | .ok px => .ok (W, H, px, entsP l)) := HDE.out
  have HPE := Lib.hid (fun k (h : pixR l W H d c = .error k) => pixR_err h)
  obtain ⟨pr, hpr⟩ : ∃ r, pixR l W H d c = r := ⟨_, rfl⟩
  rw [hpr] at HPX1 HDE HPE
  clear HPX HPB hpr
  go_wp2_with (refine wpList_load_row rfl 76 (.tmp 7) rfl J (by rfl) 76 (hdC W H d c) (0, 0) _ (by exact HK6.out) Tryz.underlying76 rfl (hdC_inf _ _ _ _) ?_)
  refine HPX1.out.mono ?_
  rintro e w7 ⟨hce, hb7⟩
  have HWS : Hid (B < w6.heap.size) := HI6.out.lt
  clear HPX1
  have HK7 := Lib.hid (HK6.out.keep hb7)
  have HI7 := Lib.hid (HI6.out.keep hb7)
  have HB7 := Lib.hid (HB6.out.trans (hb7.mono (Nat.le_of_lt HI6.out.lt)))
  have HR7 := Lib.hid (HR6.out.below hb7)
  clear hb7 HK6 HI6 HB6 HR6
  cases pr with
  | error k =>
    have hce : e = .returned (.tuple #[.agg #[.int .i64 0, .int .i64 0, .slice none 0 0], .int .i64 k]) := hce
    subst hce
    have hk0 := HPE.out k rfl
    have dk : ((k : Int) != 0) = true := by simp; omega
    have HI8 := Lib.hid (HI7.out.alloc (.cells #[.int .i64 0, .int .i64 0, .slice none 0 0] 36))
    have HB8 := Lib.hid (HB7.out.alloc (Nat.le_of_lt HI7.out.lt) (.cells #[.int .i64 0, .int .i64 0, .slice none 0 0] 36))
    clear hk0 HPE
    have HE : Hid (decP s.data.toList = .error k) := by show _ = _; rw [HDE.out]
    clear HDE
    go_wp2_with (refine wpList_rset_same rfl 36 (.tmp 2) (.tmp 51) rfl rfl B (imgI 0 0 (.slice none 0 0)) (by rfl) (by rfl) 36 (by exact HI8.out) (imgI_inf _ _ _) (imgI_one _ _ _ rfl) ?_)
    refine bodyPost_ret (v := .tuple #[.agg (imgI 0 0 (.slice none 0 0)), .slice none 0 0, .int .i64 k]) (results_ctt rfl _ _ B 36 (imgI 0 0 (.slice none 0 0)) (0, 0) _ _ _ rfl rfl rfl HI8.out Tryz.underlying36 rfl (imgI_inf _ _ _)) rfl ⟨?_, by rw [HB.out]; exact HB8.out⟩
    rw [HE.out]
    rfl
  | ok px =>
  obtain ⟨vp, rfl, hpo⟩ := hce
  obtain ⟨xp, cp, hvp⟩ := pown_shape hpo
  subst hvp
  unfold imgI
  have HE : Hid (decP s.data.toList = .ok (W, H, px, entsP l)) := HDE.out
  have HKJ := Lib.hid (Blk.new w7 36 (imgI W H (.slice xp px.length cp)))
  have HI8 := Lib.hid (HI7.out.alloc (.cells (imgI W H (.slice xp px.length cp)) 36))
  have HB8 := Lib.hid (HB7.out.alloc (Nat.le_of_lt HI7.out.lt) (.cells (imgI W H (.slice xp px.length cp)) 36))
  have HR8 : Hid (MRow (w7.alloc (.cells (imgI W H (.slice xp px.length cp)) 36)) (.slice xv l.length cv) l) := HR7.out.below ((Below.refl _ _).alloc (Nat.le_refl _) _)
  have HPO8 : Hid (POwn (w7.alloc (.cells (imgI W H (.slice xp px.length cp)) 36)) w6.heap.size (.slice xp px.length cp) px) := World.ownsRow.alloc hpo _
  have HJB : Hid (B < w7.heap.size) := HI7.out.lt
  unfold imgI at HKJ HI8 HB8 HR8 HPO8
  clear hpo HK7 HI7 HB7 HR7 HDE HPE
  go_upto_region 14 with fail
  generalize w7.alloc (.cells #[.int .i64 (W : Int), .int .i64 (H : Int), .slice xp px.length cp] 36) = w8 at *
  generalize w7.heap.size = J2 at *
  have HEN1 := Lib.hid (HEN.out w8.drew HR8.out)
  clear HEN HR8
  have HKD := Lib.hid HKJ.out.drew
  have HID := Lib.hid HI8.out.drew
  have HBD := Lib.hid HB8.out.drew
  have HPD : Hid (POwn w8.drew w6.heap.size (.slice xp px.length cp) px) := HPO8.out
  have hS : w8.drew.cell? ⟨J2, 0, none⟩ = some (.int .i64 (W : Int)) ∧ w8.drew.cell? ⟨J2, 1, none⟩ = some (.int .i64 (H : Int)) ∧ w8.drew.cell? ⟨J2, 2, none⟩ = some (.slice xp px.length cp) := ⟨HKD.out.cell 0, HKD.out.cell 1, HKD.out.cell 2⟩
  clear HKJ HI8 HB8 HPO8
  --HELD14
  refine wp_region_held_drew (S := fun _ => True) (by kernel_rfl) trivial (fun hHeld => ?_)
  clear hHeld
  generalize w8.drew = wd at *
  refine wpAnyH_weaken (S2 := fun u => u.cell? ⟨J2, 0, none⟩ = some (.int .i64 (W : Int)) ∧ u.cell? ⟨J2, 1, none⟩ = some (.int .i64 (H : Int)) ∧ u.cell? ⟨J2, 2, none⟩ = some (.slice xp px.length cp)) (fun _ _ => trivial) ?_
  refine wpAnyH_take (i := 0) (oi := ⟨some 53, Op.load 36 (Operand.tmp 8), 36, _, _, none⟩) (v := ?v1) rfl (by kernel_rfl) (by kernel_rfl) (by kernel_rfl) (fun _ _ _ h => h) (Or.inl ⟨by rfl, ?y1⟩) hS ?r1
  case y1 => (intro w hSw; (try dsimp only at hSw); go_simp; try with_reducible rfl)
  try simp only [Act.put, List.setIfInBounds_toArray, List.set_cons_zero, List.set_cons_succ]
  refine wpAnyH_take (i := 1) (oi := ⟨some 54, Op.move (Operand.tmp 5), 22, _, _, none⟩) (v := ?v2) rfl (by kernel_rfl) (by kernel_rfl) (by kernel_rfl) (fun _ _ _ h => h) (Or.inl ⟨by rfl, ?y2⟩) hS ?r2
  case y2 => (intro w hSw; (try dsimp only at hSw); go_simp; try with_reducible rfl)
  try simp only [Act.put, List.setIfInBounds_toArray, List.set_cons_zero, List.set_cons_succ]
  refine wpAnyH_ready (rs := [2]) (by kernel_rfl) (by simp) ?r3
  refine AllReadyH.cons (o := ⟨some 55, Op.call { callee := Callee.value (Operand.func 63), args := #[Operand.tmp 54], argTypes := #[22] }, 37, _, _, none⟩) rfl (fun K hK => ?s3) AllReadyH.nil
  go_simp
  refine HEN1.out.mono ?_
  rintro e w9 ⟨vm, rfl, hms, hb9⟩
  obtain ⟨xm, cm, rfl, -⟩ := id hms
  have HK9 := Lib.hid (HKD.out.keep hb9)
  have HI9 := Lib.hid (HID.out.keep hb9)
  have HB9 := Lib.hid (HBD.out.trans (hb9.mono (Nat.le_of_lt HID.out.lt)))
  have HP9 : Hid (POwn w9 w6.heap.size (.slice xp px.length cp) px) := own_below HPD.out hb9
  replace hms := Lib.hid hms
  clear hb9 HKD HID HBD HPD
  refine hK.out _ _ ?k3 (fun hHeld => ?_)
  case k3 => exact ⟨HK9.out.cell 0, HK9.out.cell 1, HK9.out.cell 2⟩
  clear hS
  have hS := hHeld
  clear hHeld
  clear hK K
  try simp only [Act.put, List.setIfInBounds_toArray, List.set_cons_zero, List.set_cons_succ]
  refine wpAnyH_ready (rs := [3]) (by kernel_rfl) (by simp) ?r4
  refine AllReadyH.cons (o := ⟨none, Op.store 36 (Operand.tmp 2) (Operand.tmp 53), 0, _, _, none⟩) rfl (fun K hK => ?s4) AllReadyH.nil
  refine step_store rfl 36 (.tmp 2) (.tmp 53) rfl rfl B (imgI W H (.slice xp px.length cp)) (by rfl) (by rfl) 36 _ HI9.out (imgI_inf _ _ _) rfl (imgI_one _ _ _ rfl) ?_
  refine hK.out _ _ ?k4 (fun hHeld => ?_)
  case k4 => exact (by have h := HK9.out.rset_ne (imgI W H (.slice xp px.length cp)) (Nat.ne_of_gt HJB.out); exact ⟨h.cell 0, h.cell 1, h.cell 2⟩)
  clear hS
  have hS := hHeld
  clear hHeld
  clear hK K
  try simp only [Act.put, List.setIfInBounds_toArray, List.set_cons_zero, List.set_cons_succ]
  refine wpAnyH_take (i := 4) (oi := ⟨some 3, Op.assign (Operand.tmp 55), 37, _, _, none⟩) (v := ?v5) rfl (by kernel_rfl) (by kernel_rfl) (by kernel_rfl) (fun _ _ _ h => h) (Or.inl ⟨by rfl, ?y5⟩) hS ?r5
  case y5 => (intro w hSw; (try dsimp only at hSw); go_simp; try with_reducible rfl)
  try simp only [Act.put, List.setIfInBounds_toArray, List.set_cons_zero, List.set_cons_succ]
  refine wpAnyH_take (i := 5) (oi := ⟨some 4, Op.assign (Operand.const (Value.int IntKind.i64 0)), 23, _, _, none⟩) (v := ?v6) rfl (by kernel_rfl) (by kernel_rfl) (by kernel_rfl) (fun _ _ _ h => h) (Or.inl ⟨by rfl, ?y6⟩) hS ?r6
  case y6 => (intro w hSw; (try dsimp only at hSw); go_simp; try with_reducible rfl)
  try simp only [Act.put, List.setIfInBounds_toArray, List.set_cons_zero, List.set_cons_succ]
  refine wpAnyH_done (by kernel_rfl) ?_ _
  go_wp2_with fail
  have hib := HI9.out.rset (imgI W H (.slice xp px.length cp))
  refine bodyPost_ret (v := .tuple #[.agg (imgI W H (.slice xp px.length cp)), .slice xm (entsP l).length cm, .int .i64 0]) (results_ctt rfl _ _ B 36 (imgI W H (.slice xp px.length cp)) (0, 0) _ _ _ rfl rfl rfl hib Tryz.underlying36 rfl (imgI_inf _ _ _)) rfl ⟨?_, by rw [HB.out]; exact below_rset HB9.out (Nat.le_refl _) _⟩
  rw [HE.out]
  refine ⟨_, _, rfl, POwn.prow (HP9.out.kept (grown_rset _ _ _) (Or.inr (own_blk_ne' HI9.out HP9.out.2 (by decide)).symm)), mrow_heap hms.out HI9.out (fun i s => ?_) (fun j hj => heap_rset_ne _ _ _ _ hj)⟩
  match i with
  | 0 => simp
  | 1 => simp
  | 2 => simp
  | i + 3 => simp
  --DLEH14
end Go.Proofs.YthbejefodelpkaaGreat
