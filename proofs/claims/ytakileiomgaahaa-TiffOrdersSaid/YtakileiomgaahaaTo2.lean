/-
  The law's gray.
-/
import Derived.Test.YtakileiomgaahaaTb5
import Derived.Test.YtakileiomgaahaaE3
import Derived.Test.YtakileiomgaahaaBw
import Derived.ChangeSlices
import Derived.ChangeArms
namespace Go.Proofs.Ytakileiomgaahaa
open Go.RowKit Go.ChangeShapes Go.WideShapes

/-- The slice value v reads as the numbers of 16 bits l. -/
def URow (w : World) (v : Value) (l : List Nat) : Prop :=
  ∃ x c, v = .slice x l.length c ∧ l.length ≤ c ∧ c ≤ maxLen ∧ (l ≠ [] → ∃ b off, x = some ⟨b, off, none⟩ ∧ ∀ i (h : i < l.length), w.cell? ⟨b, off + i, none⟩ = some (.int .u16 (l[i] : Int)))
theorem URow.below {w w' : World} {v : Value} {l : List Nat} (h : URow w v l) (hb : Below w.heap.size w w') : URow w' v l := by
  obtain ⟨x, c, rfl, h1, h2, h3⟩ := h
  refine ⟨x, c, rfl, h1, h2, fun hne => ?_⟩
  obtain ⟨b, off, rfl, hc⟩ := h3 hne
  refine ⟨b, off, rfl, fun i hi => ?_⟩
  have := hc i hi
  exact (hb.cell (p := ⟨b, _, none⟩) (World.block_lt_of_cell? w _ this)).trans this
/-- What is known of an argument []uint16. -/
def UArg (w : World) (v : Value) : Prop := ∃ l : List Nat, URow w v l ∧ ∀ x ∈ l, x < 65536
set_option maxRecDepth 100000 in
theorem open_u16 {H : Type} {enc : TypeId × Value → H} {W : World} {base : Nat} {v : Value} {d : DataW H} {p : List MemPlace} (hv : Value.okWide Try.prog W .any base 49 v)
    (h : DataW.Trod enc Try.prog W 0 (fun _ => true) true 49 v d p) : UArg W v := by
  obtain ⟨a0, len, cap, rfl⟩ := okWide_slice Try.underlying49 hv
  obtain ⟨fuel, hf⟩ := h
  rcases open_ints Try.underlying49 Try.underlying51 (by kernel_rfl) hf with ⟨hcs, _⟩ | ⟨a, len', cap', zs, hcs, _, hl, hm, hzl, _, hcell, hwf⟩
  · simp [Value.cells] at hcs
    obtain ⟨rfl, rfl, rfl⟩ := hcs
    exact ⟨[], ⟨none, 0, rfl, Nat.le_refl _, Nat.zero_le _, fun h => absurd rfl h⟩, fun x hx => by cases hx⟩
  · simp [Value.cells] at hcs
    obtain ⟨rfl, rfl, rfl⟩ := hcs
    simp only [if_true] at hzl
    have hr : ∀ z ∈ zs, 0 ≤ z ∧ z < 65536 := fun z hz => by
      have := hwf z hz
      unfold Lit.wf at this
      rw [Bool.and_eq_true, decide_eq_true_eq, decide_eq_true_eq] at this
      have h1 : (0 : Int) ≤ z := this.1
      have h2 : z ≤ (65535 : Int) := this.2
      omega
    have hlt : ((zs.take len).map Int.toNat).length = len := by simp; omega
    refine ⟨(zs.take len).map Int.toNat, ⟨some a, cap, by rw [hlt], by omega, hm, fun hne => ?_⟩, fun x hx => ?_⟩
    · have hlen : 0 < len := by
        rcases Nat.eq_zero_or_pos len with h0 | h0
        · subst h0; simp at hne
        · exact h0
      obtain ⟨b, off, spot⟩ := a
      have hspot : spot = none := by
        have c0 := hcell 0 (by omega)
        simpa [Addr.add] using World.cell?_spot c0
      subst hspot
      refine ⟨b, off, rfl, fun i hi => ?_⟩
      rw [hlt] at hi
      have c0 := hcell i (by omega)
      rw [Addr.add_lit] at c0
      have hi' : i < zs.length := by omega
      have h0 := hr zs[i] (List.getElem_mem hi')
      have e : zs.getD i 0 = zs[i] := by rw [List.getD_eq_getElem?_getD, List.getElem?_eq_getElem hi']; rfl
      rw [c0, e]
      simp only [List.getElem_map, List.getElem_take]
      rw [Int.toNat_of_nonneg h0.1]
    · obtain ⟨z, hz, rfl⟩ := List.mem_map.1 hx
      have := hr z (List.mem_of_mem_take hz)
      omega

set_option maxHeartbeats 2000000 in
set_option maxRecDepth 100000 in
theorem lput_any (v n : Nat) (big : Bool) (w : World) (hn : n ≤ 4) : Calls Try.prog 68 #[.int .i64 v, .int .i64 n, .bool big] w fun e w' => e = .returned (.string ⟨(litE big v n).toArray⟩) ∧ Below w.heap.size w w' := by
  go_enter Try.func68, Try.ntmps68
  go_wp2_with fail
  go_loopw [11, 7] (fun vk vs wr => ∃ (k : Nat) (st : ByteArray), vk = .int .i64 k ∧ vs = .string st ∧ k ≤ n ∧ Hid (st.data.toList = litE big v k) ∧ st.size ≤ 4 ∧ Hid (Below w.heap.size w wr)) (fun vk _ _ => n - (intOf vk).toNat)
  case atStart => exact ⟨0, ⟨#[]⟩, rfl, rfl, Nat.zero_le _, by cases big <;> rfl, by decide, Below.refl _ _⟩
  case round =>
    obtain ⟨k, st, rfl, rfl, hk, hst, hss, hbw⟩ := hrel
    by_cases hlt : k < n
    · have dlt : decide ((k : Int) < (n : Int)) = true := by simp; omega
      obtain ⟨q, hq⟩ : ∃ q, q = v / 2 ^ (8 * k) := ⟨_, rfl⟩
      have hsh : (v : Int) / 2 ^ (8 * k) = (q : Int) := by rw [hq]; simp
      have HQ : Hid (litE big v (k + 1) = if big then [UInt8.ofNat (q % 256)] ++ litE big v k else litE big v k ++ [UInt8.ofNat (q % 256)]) := by
        show _ = _
        unfold litE
        cases big with
        | true => simp only [if_true]; rw [hq, litB_succ, List.reverse_append]; rfl
        | false => simp only [Bool.false_eq_true, if_false]; rw [hq, litB_succ]
      have hs := str1 (q % 256) (by omega) wr
      have HB := Lib.hid (hbw.out.alloc hbw.out.size (.cells #[.int .u8 ((q % 256 : Nat) : Int)] 5))
      have c1 : ((q % 256 : Nat) : Int) = (q : Int) % 256 := by omega
      rw [c1] at hs HB
      obtain ⟨b1, hb1⟩ : ∃ bt, bt = UInt8.ofNat (q % 256) := ⟨_, rfl⟩
      rw [← hb1] at hs HQ
      have hst2 : st.size = k := by have := congrArg List.length hst.out; rw [litE_len] at this; simpa using this
      have HS2 := Lib.hid hst2
      have hk4 : k ≤ 3 := by omega
      clear hq c1 hb1 hst2
      cases big with
      | true =>
        go_wp2_with fail
        go_roundw
        case rel =>
          refine ⟨k + 1, _, by go_num, rfl, by omega, ?_, ?_, HB.out⟩
          · show _ = _
            rw [HQ.out, ← hst.out]
            simp [ByteArray.data_append]
          · have := HS2.out
            have e : ((⟨#[b1]⟩ : ByteArray) ++ st).size = 1 + st.size := by simp [ByteArray.size_append]; rfl
            first | (rw [e]; omega) | (simp [ByteArray.size_append]; omega)
        case measure => simp [intOf]; omega
      | false =>
        go_wp2_with fail
        go_roundw
        case rel =>
          refine ⟨k + 1, _, by go_num, rfl, by omega, ?_, ?_, HB.out⟩
          · show _ = _
            rw [HQ.out, ← hst.out]
            simp [ByteArray.data_append]
          · have := HS2.out
            have e : (st ++ (⟨#[b1]⟩ : ByteArray)).size = st.size + 1 := by simp [ByteArray.size_append]; rfl
            first | (rw [e]; omega) | (simp [ByteArray.size_append]; omega)
        case measure => simp [intOf]; omega
    · have dlt : decide ((k : Int) < (n : Int)) = false := by simp; omega
      have hkn : k = n := by omega
      have HF : Hid (st = ⟨(litE big v n).toArray⟩) := by
        show _ = _
        rw [← hkn, ← hst.out]
      clear hkn
      go_wp2_with fail
      go_ret
      exact ⟨by rw [HF.out]; rfl, hbw.out⟩
set_option maxHeartbeats 2000000 in
set_option maxRecDepth 100000 in
theorem lshort_any (v : Nat) (big : Bool) (w : World) : Calls Try.prog 69 #[.int .i64 v, .bool big] w fun e w' => e = .returned (.string ⟨(shortE big v).toArray⟩) ∧ Below w.heap.size w w' := by
  have H := Lib.hid (fun w => lput_any v 2 big w (by decide))
  obtain ⟨s, hs⟩ : ∃ s : ByteArray, s = ⟨(litE big v 2).toArray⟩ := ⟨_, rfl⟩
  rw [← hs] at H
  have HS : Hid (s ++ ⟨#[0, 0]⟩ = (⟨(shortE big v).toArray⟩ : ByteArray)) := by
    show _ = _
    rw [hs]
    apply ByteArray.ext
    unfold shortE
    simp [ByteArray.data_append]
  have hsz : s.size ≤ 4 := by rw [hs, ba_len, litE_len]; decide
  clear hs
  go_enter Try.func69, Try.ntmps69
  go_wp2_with fail
  refine (H.out _).mono ?_
  rintro e w1 ⟨rfl, hb1⟩
  have HB := Lib.hid hb1
  clear hb1
  go_wp2_with fail
  go_ret
  exact ⟨by rw [← HS.out]; rfl, HB.out⟩
end Go.Proofs.Ytakileiomgaahaa
namespace Go.Proofs.Ytakileiomgaahaa
open Go.RowKit

theorem hdb_list (big : Bool) : ((if big then (⟨#[77, 77]⟩ : ByteArray) else ⟨#[73, 73]⟩)).data.toList = (if big then [77, 77] else [73, 73]) := by cases big <;> rfl
theorem ba_cat (a b : ByteArray) : (a ++ b).data.toList = a.data.toList ++ b.data.toList := by rw [ByteArray.data_append, Array.toList_append]
theorem ba_catsz (a b : ByteArray) : (a ++ b).size = a.size + b.size := by simp [ByteArray.size_append]
theorem ba_ext {a : ByteArray} {l : List UInt8} (h : a.data.toList = l) : a = ⟨l.toArray⟩ := by rw [← h]
set_option maxHeartbeats 8000000 in
set_option maxRecDepth 100000 in
theorem lgray_any (v : Value) (l : List Nat) (big : Bool) (w : World) (hr : URow w v l) (hl : l.length ≤ 256) (hv : ∀ x ∈ l, x < 65536) : Calls Try.prog 28 #[v, .bool big] w fun e w' => e = .returned (.string ⟨(grayE big l).toArray⟩) ∧ Below w.heap.size w w' := by
  obtain ⟨pt, hpt⟩ : ∃ pt : Nat → Nat → ByteArray, ∀ v n, pt v n = ⟨(litE big v n).toArray⟩ := ⟨_, fun _ _ => rfl⟩
  obtain ⟨sh, hsh⟩ : ∃ sh : Nat → ByteArray, ∀ v, sh v = ⟨(shortE big v).toArray⟩ := ⟨_, fun _ => rfl⟩
  have HPL : Hid (∀ v n, (pt v n).data.toList = litE big v n) := fun v n => by rw [hpt]
  have HSL : Hid (∀ v, (sh v).data.toList = shortE big v) := fun v => by rw [hsh]
  have HPS : Hid (∀ v n, n ≤ 4 → (pt v n).size ≤ 4) := fun v n h => by rw [hpt, ba_len, litE_len]; exact h
  have HSS : Hid (∀ v, (sh v).size ≤ 4) := fun v => by rw [hsh, ba_len, shortE_len]; exact Nat.le_refl _
  have HP : Hid (∀ (v n : Nat) w, n ≤ 4 → Calls Try.prog 68 #[.int .i64 (v : Int), .int .i64 (n : Int), .bool big] w fun e w' => e = .returned (.string (pt v n)) ∧ Below w.heap.size w w') := fun v n w h => by rw [hpt]; exact lput_any v n big w h
  have HS : Hid (∀ (v : Nat) w, Calls Try.prog 69 #[.int .i64 (v : Int), .bool big] w fun e w' => e = .returned (.string (sh v)) ∧ Below w.heap.size w w') := fun v w => by rw [hsh]; exact lshort_any v big w
  obtain ⟨x, c, rfl, -, -, hcell⟩ := hr
  have HCE : Hid (∀ wx, Below w.heap.size w wx → ∀ i (h : i < l.length), ∃ b off, x = some ⟨b, off, none⟩ ∧ wx.cell? ⟨b, off + i, none⟩ = some (.int .u16 (l[i] : Int))) := fun wx hb i hi => by
    obtain ⟨b, off, rfl, hc⟩ := hcell (by rintro rfl; simp at hi)
    exact ⟨b, off, rfl, (hb.cell (p := ⟨b, _, none⟩) (World.block_lt_of_cell? w _ (hc i hi))).trans (hc i hi)⟩
  obtain ⟨L, hL⟩ : ∃ L, l.length = L := ⟨_, rfl⟩
  have HLL := Lib.hid hL
  have HVB := Lib.hid hv
  rw [hL] at hl ⊢
  have hL63 : L ≤ 9223372036854775807 := by omega
  clear hpt hsh hcell hL hv
  go_enter Try.func28, Try.ntmps28
  go_upto_if 9 with fail
  obtain ⟨H0, hH0⟩ : ∃ H0 : ByteArray, (if big then (⟨#[77, 77]⟩ : ByteArray) else ⟨#[73, 73]⟩) = H0 := ⟨_, rfl⟩
  have HH0 : Hid (H0.data.toList = (if big then [77, 77] else [73, 73])) := by show _ = _; rw [← hH0]; exact hdb_list big
  have hH0s : H0.size ≤ 4 := by rw [← hH0]; cases big <;> decide
  go_cut [5] (fun v5 wx => v5 = .string H0 ∧ wx = w)
  case first =>
    cases big with
    | true =>
      have e : (⟨#[77, 77]⟩ : ByteArray) = H0 := hH0
      clear HP HS HPL HSL HPS HSS HH0 hH0
      go_wp2_with fail
      go_meet
      case rel => exact ⟨by rw [← e], rfl⟩
    | false =>
      have e : (⟨#[73, 73]⟩ : ByteArray) = H0 := hH0
      clear HP HS HPL HSL HPS HSS HH0 hH0
      go_wp2_with fail
      go_meet
      case rel => exact ⟨by rw [← e], rfl⟩
  case rest =>
    obtain ⟨rfl, hwc⟩ := hcut
    have hwc2 := hwc.symm
    subst hwc2
    clear hwc hH0
    have HB0 := Lib.hid (Below.refl w.heap.size w)
    have z42 := HPS.out 42 2 (by decide)
    have z8 := HPS.out 8 4 (by decide)
    have z7 := HPS.out 7 2 (by decide)
    go_wp2_with fail
    refine (HP.out 42 2 _ (by decide)).mono ?_
    rintro e w1 ⟨rfl, hb⟩
    have HB1 := Lib.hid (bthen HB0.out hb)
    clear hb HB0
    go_wp2_with fail
    refine (HP.out 8 4 _ (by decide)).mono ?_
    rintro e w2 ⟨rfl, hb⟩
    have HB2 := Lib.hid (bthen HB1.out hb)
    clear hb HB1
    go_wp2_with fail
    refine (HP.out 7 2 _ (by decide)).mono ?_
    rintro e w3 ⟨rfl, hb⟩
    have HB3 := Lib.hid (bthen HB2.out hb)
    clear hb HB2
    go_upto_region 5 with fail
    obtain ⟨S1, hS1⟩ : ∃ S : ByteArray, H0 ++ (pt 42 2 ++ pt 8 4 ++ pt 7 2) = S := ⟨_, rfl⟩
    have HS1 : Hid (S1.data.toList = headE big 7) := by
      show _ = _
      rw [← hS1]
      simp only [ba_cat, HPL.out, HH0.out]
      unfold headE
      simp only [List.append_assoc]
    have hS1s : S1.size ≤ 16 := by
      rw [← hS1]
      simp only [ba_catsz]
      omega
    rw [hS1]
    clear hS1 z42 z8 z7
    have za := HPS.out 256 2 (by decide)
    have zb := HPS.out 3 2 (by decide)
    have zc := HPS.out 1 4 (by decide)
    have zd := HSS.out L
    go_wp2_with fail
    refine (HP.out 256 2 _ (by decide)).mono ?_
    rintro e w4 ⟨rfl, hb⟩
    have HB4 := Lib.hid (bthen HB3.out hb)
    clear hb HB3
    go_wp2_with fail
    refine (HP.out 3 2 _ (by decide)).mono ?_
    rintro e w5 ⟨rfl, hb⟩
    have HB5 := Lib.hid (bthen HB4.out hb)
    clear hb HB4
    go_wp2_with fail
    refine (HP.out 1 4 _ (by decide)).mono ?_
    rintro e w6 ⟨rfl, hb⟩
    have HB6 := Lib.hid (bthen HB5.out hb)
    clear hb HB5
    go_wp2_with fail
    refine (HS.out L _).mono ?_
    rintro e w7 ⟨rfl, hb⟩
    have HB7 := Lib.hid (bthen HB6.out hb)
    clear hb HB6
    go_upto_region 7 with fail
    obtain ⟨S2, hS2⟩ : ∃ S : ByteArray, S1 ++ (pt 256 2 ++ pt 3 2 ++ pt 1 4 ++ sh L) = S := ⟨_, rfl⟩
    have HS2 : Hid (S2.data.toList = headE big 7 ++ tagE big 256 3 1 (shortE big L)) := by
      show _ = _
      rw [← hS2]
      simp only [ba_cat, HPL.out, HSL.out, HS1.out]
      rfl
    have hS2s : S2.size ≤ 32 := by
      rw [← hS2]
      simp only [ba_catsz]
      omega
    rw [hS2]
    clear hS2 za zb zc zd HS1 hS1s
    have za := HPS.out 257 2 (by decide)
    have zb := HPS.out 3 2 (by decide)
    have zc := HPS.out 1 4 (by decide)
    have zd := HSS.out 1
    go_wp2_with fail
    refine (HP.out 257 2 _ (by decide)).mono ?_
    rintro e w8 ⟨rfl, hb⟩
    have HB8 := Lib.hid (bthen HB7.out hb)
    clear hb HB7
    go_wp2_with fail
    refine (HP.out 3 2 _ (by decide)).mono ?_
    rintro e w9 ⟨rfl, hb⟩
    have HB9 := Lib.hid (bthen HB8.out hb)
    clear hb HB8
    go_wp2_with fail
    refine (HP.out 1 4 _ (by decide)).mono ?_
    rintro e w10 ⟨rfl, hb⟩
    have HB10 := Lib.hid (bthen HB9.out hb)
    clear hb HB9
    go_wp2_with fail
    refine (HS.out 1 _).mono ?_
    rintro e w11 ⟨rfl, hb⟩
    have HB11 := Lib.hid (bthen HB10.out hb)
    clear hb HB10
    go_upto_region 8 with fail
    obtain ⟨S3, hS3⟩ : ∃ S : ByteArray, S2 ++ (pt 257 2 ++ pt 3 2 ++ pt 1 4 ++ sh 1) = S := ⟨_, rfl⟩
    have HS3 : Hid (S3.data.toList = headE big 7 ++ tagE big 256 3 1 (shortE big L) ++ tagE big 257 3 1 (shortE big 1)) := by
      show _ = _
      rw [← hS3]
      simp only [ba_cat, HPL.out, HSL.out, HS2.out]
      rfl
    have hS3s : S3.size ≤ 48 := by
      rw [← hS3]
      simp only [ba_catsz]
      omega
    rw [hS3]
    clear hS3 za zb zc zd HS2 hS2s
    have za := HPS.out 258 2 (by decide)
    have zb := HPS.out 3 2 (by decide)
    have zc := HPS.out 1 4 (by decide)
    have zd := HSS.out 16
    go_wp2_with fail
    refine (HP.out 258 2 _ (by decide)).mono ?_
    rintro e w12 ⟨rfl, hb⟩
    have HB12 := Lib.hid (bthen HB11.out hb)
    clear hb HB11
    go_wp2_with fail
    refine (HP.out 3 2 _ (by decide)).mono ?_
    rintro e w13 ⟨rfl, hb⟩
    have HB13 := Lib.hid (bthen HB12.out hb)
    clear hb HB12
    go_wp2_with fail
    refine (HP.out 1 4 _ (by decide)).mono ?_
    rintro e w14 ⟨rfl, hb⟩
    have HB14 := Lib.hid (bthen HB13.out hb)
    clear hb HB13
    go_wp2_with fail
    refine (HS.out 16 _).mono ?_
    rintro e w15 ⟨rfl, hb⟩
    have HB15 := Lib.hid (bthen HB14.out hb)
    clear hb HB14
    go_upto_region 9 with fail
    obtain ⟨S4, hS4⟩ : ∃ S : ByteArray, S3 ++ (pt 258 2 ++ pt 3 2 ++ pt 1 4 ++ sh 16) = S := ⟨_, rfl⟩
    have HS4 : Hid (S4.data.toList = headE big 7 ++ tagE big 256 3 1 (shortE big L) ++ tagE big 257 3 1 (shortE big 1) ++ tagE big 258 3 1 (shortE big 16)) := by
      show _ = _
      rw [← hS4]
      simp only [ba_cat, HPL.out, HSL.out, HS3.out]
      rfl
    have hS4s : S4.size ≤ 64 := by
      rw [← hS4]
      simp only [ba_catsz]
      omega
    rw [hS4]
    clear hS4 za zb zc zd HS3 hS3s
    have za := HPS.out 262 2 (by decide)
    have zb := HPS.out 3 2 (by decide)
    have zc := HPS.out 1 4 (by decide)
    have zd := HSS.out 1
    go_wp2_with fail
    refine (HP.out 262 2 _ (by decide)).mono ?_
    rintro e w16 ⟨rfl, hb⟩
    have HB16 := Lib.hid (bthen HB15.out hb)
    clear hb HB15
    go_wp2_with fail
    refine (HP.out 3 2 _ (by decide)).mono ?_
    rintro e w17 ⟨rfl, hb⟩
    have HB17 := Lib.hid (bthen HB16.out hb)
    clear hb HB16
    go_wp2_with fail
    refine (HP.out 1 4 _ (by decide)).mono ?_
    rintro e w18 ⟨rfl, hb⟩
    have HB18 := Lib.hid (bthen HB17.out hb)
    clear hb HB17
    go_wp2_with fail
    refine (HS.out 1 _).mono ?_
    rintro e w19 ⟨rfl, hb⟩
    have HB19 := Lib.hid (bthen HB18.out hb)
    clear hb HB18
    go_upto_region 10 with fail
    obtain ⟨S5, hS5⟩ : ∃ S : ByteArray, S4 ++ (pt 262 2 ++ pt 3 2 ++ pt 1 4 ++ sh 1) = S := ⟨_, rfl⟩
    have HS5 : Hid (S5.data.toList = headE big 7 ++ tagE big 256 3 1 (shortE big L) ++ tagE big 257 3 1 (shortE big 1) ++ tagE big 258 3 1 (shortE big 16) ++ tagE big 262 3 1 (shortE big 1)) := by
      show _ = _
      rw [← hS5]
      simp only [ba_cat, HPL.out, HSL.out, HS4.out]
      rfl
    have hS5s : S5.size ≤ 80 := by
      rw [← hS5]
      simp only [ba_catsz]
      omega
    rw [hS5]
    clear hS5 za zb zc zd HS4 hS4s
    have za := HPS.out 273 2 (by decide)
    have zb := HPS.out 4 2 (by decide)
    have zc := HPS.out 1 4 (by decide)
    have zd := HPS.out 94 4 (by decide)
    go_wp2_with fail
    refine (HP.out 273 2 _ (by decide)).mono ?_
    rintro e w20 ⟨rfl, hb⟩
    have HB20 := Lib.hid (bthen HB19.out hb)
    clear hb HB19
    go_wp2_with fail
    refine (HP.out 4 2 _ (by decide)).mono ?_
    rintro e w21 ⟨rfl, hb⟩
    have HB21 := Lib.hid (bthen HB20.out hb)
    clear hb HB20
    go_wp2_with fail
    refine (HP.out 1 4 _ (by decide)).mono ?_
    rintro e w22 ⟨rfl, hb⟩
    have HB22 := Lib.hid (bthen HB21.out hb)
    clear hb HB21
    go_wp2_with fail
    refine (HP.out 94 4 _ (by decide)).mono ?_
    rintro e w23 ⟨rfl, hb⟩
    have HB23 := Lib.hid (bthen HB22.out hb)
    clear hb HB22
    go_upto_region 11 with fail
    obtain ⟨S6, hS6⟩ : ∃ S : ByteArray, S5 ++ (pt 273 2 ++ pt 4 2 ++ pt 1 4 ++ pt 94 4) = S := ⟨_, rfl⟩
    have HS6 : Hid (S6.data.toList = headE big 7 ++ tagE big 256 3 1 (shortE big L) ++ tagE big 257 3 1 (shortE big 1) ++ tagE big 258 3 1 (shortE big 16) ++ tagE big 262 3 1 (shortE big 1) ++ tagE big 273 4 1 (litE big 94 4)) := by
      show _ = _
      rw [← hS6]
      simp only [ba_cat, HPL.out, HS5.out]
      rfl
    have hS6s : S6.size ≤ 96 := by
      rw [← hS6]
      simp only [ba_catsz]
      omega
    rw [hS6]
    clear hS6 za zb zc zd HS5 hS5s
    have za := HPS.out 277 2 (by decide)
    have zb := HPS.out 3 2 (by decide)
    have zc := HPS.out 1 4 (by decide)
    have zd := HSS.out 1
    go_wp2_with fail
    refine (HP.out 277 2 _ (by decide)).mono ?_
    rintro e w24 ⟨rfl, hb⟩
    have HB24 := Lib.hid (bthen HB23.out hb)
    clear hb HB23
    go_wp2_with fail
    refine (HP.out 3 2 _ (by decide)).mono ?_
    rintro e w25 ⟨rfl, hb⟩
    have HB25 := Lib.hid (bthen HB24.out hb)
    clear hb HB24
    go_wp2_with fail
    refine (HP.out 1 4 _ (by decide)).mono ?_
    rintro e w26 ⟨rfl, hb⟩
    have HB26 := Lib.hid (bthen HB25.out hb)
    clear hb HB25
    go_wp2_with fail
    refine (HS.out 1 _).mono ?_
    rintro e w27 ⟨rfl, hb⟩
    have HB27 := Lib.hid (bthen HB26.out hb)
    clear hb HB26
    go_upto_region 12 with fail
    obtain ⟨S7, hS7⟩ : ∃ S : ByteArray, S6 ++ (pt 277 2 ++ pt 3 2 ++ pt 1 4 ++ sh 1) = S := ⟨_, rfl⟩
    have HS7 : Hid (S7.data.toList = headE big 7 ++ tagE big 256 3 1 (shortE big L) ++ tagE big 257 3 1 (shortE big 1) ++ tagE big 258 3 1 (shortE big 16) ++ tagE big 262 3 1 (shortE big 1) ++ tagE big 273 4 1 (litE big 94 4) ++ tagE big 277 3 1 (shortE big 1)) := by
      show _ = _
      rw [← hS7]
      simp only [ba_cat, HPL.out, HSL.out, HS6.out]
      rfl
    have hS7s : S7.size ≤ 112 := by
      rw [← hS7]
      simp only [ba_catsz]
      omega
    rw [hS7]
    clear hS7 za zb zc zd HS6 hS6s
    have za := HPS.out 279 2 (by decide)
    have zb := HPS.out 4 2 (by decide)
    have zc := HPS.out 1 4 (by decide)
    have zd := HPS.out (2 * L) 4 (by decide)
    go_wp2_with fail
    refine (HP.out 279 2 _ (by decide)).mono ?_
    rintro e w28 ⟨rfl, hb⟩
    have HB28 := Lib.hid (bthen HB27.out hb)
    clear hb HB27
    go_wp2_with fail
    refine (HP.out 4 2 _ (by decide)).mono ?_
    rintro e w29 ⟨rfl, hb⟩
    have HB29 := Lib.hid (bthen HB28.out hb)
    clear hb HB28
    go_wp2_with fail
    refine (HP.out 1 4 _ (by decide)).mono ?_
    rintro e w30 ⟨rfl, hb⟩
    have HB30 := Lib.hid (bthen HB29.out hb)
    clear hb HB29
    obtain ⟨L2, hL2⟩ : ∃ q, 2 * L = q := ⟨_, rfl⟩
    have mL : (2 : Int) * (L : Int) = (L2 : Int) := by omega
    have HL2 := Lib.hid hL2
    rw [hL2] at zd
    clear hL2
    go_wp2_with fail
    refine (HP.out L2 4 _ (by decide)).mono ?_
    rintro e w31 ⟨rfl, hb⟩
    have HB31 := Lib.hid (bthen HB30.out hb)
    clear hb HB30
    go_upto_region 13 with fail
    obtain ⟨S8, hS8⟩ : ∃ S : ByteArray, S7 ++ (pt 279 2 ++ pt 4 2 ++ pt 1 4 ++ pt L2 4) = S := ⟨_, rfl⟩
    have HS8 : Hid (S8.data.toList = headE big 7 ++ tagE big 256 3 1 (shortE big L) ++ tagE big 257 3 1 (shortE big 1) ++ tagE big 258 3 1 (shortE big 16) ++ tagE big 262 3 1 (shortE big 1) ++ tagE big 273 4 1 (litE big 94 4) ++ tagE big 277 3 1 (shortE big 1) ++ tagE big 279 4 1 (litE big L2 4)) := by
      show _ = _
      rw [← hS8]
      simp only [ba_cat, HPL.out, HS7.out]
      rfl
    have hS8s : S8.size ≤ 128 := by
      rw [← hS8]
      simp only [ba_catsz]
      omega
    rw [hS8]
    clear hS8 za zb zc zd HS7 hS7s
    go_wp2_with fail
    go_loopw [119, 5] (fun vi vs wr => ∃ (i : Nat) (st : ByteArray), vi = .int .i64 i ∧ vs = .string st ∧ i ≤ L ∧ Hid (st.data.toList = S8.data.toList ++ (l.take i).flatMap fun v => litE big v 2) ∧ st.size ≤ 128 + 4 * i ∧ Hid (Below w.heap.size w wr)) (fun vi _ _ => L - (intOf vi).toNat)
    case atStart => exact ⟨0, S8, rfl, rfl, Nat.zero_le _, by show _ = _; simp, by omega, HB31.out⟩
    case round =>
      obtain ⟨i, st, rfl, rfl, hi, hst, hss, hbw⟩ := hrel
      by_cases hlt : i < L
      · have dlt : decide ((i : Int) < (L : Int)) = true := by simp; omega
        have hil : i < l.length := by rw [HLL.out]; exact hlt
        obtain ⟨b, off, rfl, c0⟩ := HCE.out wr hbw.out i hil
        have hx := HVB.out l[i] (List.getElem_mem hil)
        have HTK : Hid ((l.take (i + 1)).flatMap (fun v => litE big v 2) = (l.take i).flatMap (fun v => litE big v 2) ++ litE big l[i] 2) := by
          show _ = _
          rw [List.take_succ_eq_append_getElem hil, List.flatMap_append]
          simp
        generalize l[i] = y at *
        have i1 : (i : Int) < (L : Int) := by omega
        have zy := HPS.out y 2 (by decide)
        have wy : IntKind.i64.wrap (y : Int) = (y : Int) := by rw [IntKind.wrap_i64]; omega
        have HCALL := Lib.hid (fun w => HP.out y 2 w (by decide))
        clear hil
        go_wp2_with fail
        refine (HCALL.out _).mono ?_
        rintro e wn ⟨rfl, hb⟩
        have HBn := Lib.hid (bthen hbw.out hb)
        have HST : Hid ((st ++ pt y 2).data.toList = S8.data.toList ++ (l.take (i + 1)).flatMap fun v => litE big v 2) := by
          show _ = _
          rw [ba_cat, hst.out, HPL.out, HTK.out, List.append_assoc]
        have hz2 : (st ++ pt y 2).size ≤ 128 + 4 * (i + 1) := by rw [ba_catsz]; omega
        have HZ2 := Lib.hid hz2
        clear hb c0 hz2
        go_wp2_with fail
        go_roundw
        case rel => exact ⟨i + 1, _, by go_num, rfl, by omega, HST.out, HZ2.out, HBn.out⟩
        case measure => simp [intOf]; omega
      · have dlt : decide ((i : Int) < (L : Int)) = false := by simp; omega
        have hin : i = L := by omega
        have HF : Hid (st = ⟨(grayE big l).toArray⟩) := by
          show _ = _
          apply ba_ext
          rw [hst.out, HS8.out, hin, ← HLL.out, List.take_length]
          unfold grayE
          rw [HLL.out, HL2.out]
        clear hin
        go_wp2_with fail
        go_ret
        exact ⟨by rw [HF.out]; rfl, hbw.out⟩
end Go.Proofs.Ytakileiomgaahaa
