/-
  The program of tiff: Unpack.
-/
import Derived.Test.YtakileiomgaahaaTi6
import Derived.Test.YtakileiomgaahaaRep
import Derived.Deep.RegionLaw
import Derived.Deep.CutRange
namespace Go.Proofs.Ytakileiomgaahaa
open Go.RowKit

set_option maxHeartbeats 1000000 in
set_option maxRecDepth 100000 in
theorem len_any (B b : Nat) (l : List UInt8) (w : World) (h : Bld B b l w) : Calls Try.prog 29 #[.pointer (some ⟨b, 0, none⟩)] w fun e w' => e = .returned (.int .i64 l.length) ∧ w = w' := by
  have key : ∃ v, w.cell? ⟨b, 1, none⟩ = some v ∧ BRow w B 5 v l := by
    rcases h with ⟨_, v, hbk, hown, _⟩ | ⟨_, v, hbk, hown, _⟩
    · refine ⟨v, by rw [Lib.cell_of_heap hbk]; rfl, ?_⟩
      rw [Lib.byteCells_length] at hown; exact hown
    · refine ⟨v, by rw [Lib.cell_of_heap hbk]; rfl, ?_⟩
      rw [Lib.byteCells_length] at hown; exact hown
  obtain ⟨v, c1, hrow⟩ := key
  obtain ⟨x, c, rfl⟩ := brow_shape hrow
  clear hrow h
  go_enter Try.func29, Try.ntmps29
  go_wp2_with fail
  go_ret
  exact ⟨rfl, rfl⟩
/-- One piece of packed bytes behind its head h: how many bytes it takes, and what it gives. -/
def pcN (h : UInt8) : Nat := if 128 < h.toNat then 1 else h.toNat + 1
def pcS (h : UInt8) : Nat := if 128 < h.toNat then 257 - h.toNat else h.toNat + 1
def pcB (h : UInt8) (t : List UInt8) : List UInt8 := Lib.repeatL (t.take (pcN h)) (pcS h / pcN h)
def unpF : Nat → Nat → List UInt8 → List UInt8 → Except Nat (List UInt8)
  | 0, _, _, _ => .error 5
  | f + 1, n, l, out =>
    if out.length < n then
      match l with
      | [] => .error 5
      | h :: t =>
        if h.toNat = 128 then unpF f n t out
        else if n - out.length < pcS h then .error 4
        else if t.length < pcN h then .error 5
        else unpF f n (t.drop (pcN h)) (out ++ pcB h t)
    else if l = [] then .ok out else .error 6
theorem unpF_cons (f n : Nat) (h : UInt8) (t out : List UInt8) : unpF (f + 1) n (h :: t) out = if out.length < n then (if h.toNat = 128 then unpF f n t out else if n - out.length < pcS h then .error 4 else if t.length < pcN h then .error 5 else unpF f n (t.drop (pcN h)) (out ++ pcB h t)) else .error 6 := by
  rw [unpF]; rfl
theorem unpF_enough (f g n : Nat) (l out : List UInt8) (hf : l.length < f) (hg : l.length < g) : unpF f n l out = unpF g n l out := by
  induction f generalizing g l out with
  | zero => omega
  | succ f ih =>
    cases g with
    | zero => omega
    | succ g =>
      cases l with
      | nil => rfl
      | cons h t =>
        rw [unpF_cons, unpF_cons]
        simp only [List.length_cons] at hf hg
        rw [ih g t out (by omega) (by omega), ih g (t.drop (pcN h)) (out ++ pcB h t) (by rw [List.length_drop]; omega) (by rw [List.length_drop]; omega)]
def unpG (n : Nat) (l out : List UInt8) : Except Nat (List UInt8) := unpF (l.length + 1) n l out
def unpP (l : List UInt8) (n : Int) : Except Nat (List UInt8) := if n < 0 ∨ 1048576 < n then .error 2 else unpG n.toNat l []
theorem unpG_nil {n : Nat} {out : List UInt8} (h : out.length < n) : unpG n [] out = .error 5 := by unfold unpG unpF; rw [if_pos h]
theorem unpG_done {n : Nat} {out : List UInt8} (h : ¬ out.length < n) : unpG n [] out = .ok out := by unfold unpG unpF; rw [if_neg h, if_pos rfl]
theorem unpG_more {n : Nat} {l out : List UInt8} (h : ¬ out.length < n) (hl : l ≠ []) : unpG n l out = .error 6 := by unfold unpG unpF; rw [if_neg h, if_neg hl]
theorem unpG_skip {n : Nat} {h : UInt8} {t out : List UInt8} (ho : out.length < n) (hh : h.toNat = 128) : unpG n (h :: t) out = unpG n t out := by
  unfold unpG
  rw [List.length_cons, unpF_cons, if_pos ho, if_pos hh]
theorem unpG_form {n : Nat} {h : UInt8} {t out : List UInt8} (ho : out.length < n) (hh : h.toNat ≠ 128) (h4 : n - out.length < pcS h) : unpG n (h :: t) out = .error 4 := by
  unfold unpG
  rw [List.length_cons, unpF_cons, if_pos ho, if_neg hh, if_pos h4]
theorem unpG_short {n : Nat} {h : UInt8} {t out : List UInt8} (ho : out.length < n) (hh : h.toNat ≠ 128) (h4 : ¬ n - out.length < pcS h) (h5 : t.length < pcN h) : unpG n (h :: t) out = .error 5 := by
  unfold unpG
  rw [List.length_cons, unpF_cons, if_pos ho, if_neg hh, if_neg h4, if_pos h5]
theorem unpG_step {n : Nat} {h : UInt8} {t out : List UInt8} (ho : out.length < n) (hh : h.toNat ≠ 128) (h4 : ¬ n - out.length < pcS h) (h5 : ¬ t.length < pcN h) : unpG n (h :: t) out = unpG n (t.drop (pcN h)) (out ++ pcB h t) := by
  unfold unpG
  rw [List.length_cons, unpF_cons, if_pos ho, if_neg hh, if_neg h4, if_neg h5]
  exact unpF_enough _ _ _ _ _ (by rw [List.length_drop]; omega) (by omega)
theorem pcN_S (h : UInt8) : 1 ≤ pcN h ∧ pcN h ≤ 129 + 127 ∧ pcS h ≤ 256 ∧ pcN h * (pcS h / pcN h) = pcS h := by
  have := h.toNat_lt
  unfold pcN pcS
  split
  · simp; omega
  · refine ⟨by omega, by omega, by omega, ?_⟩
    rw [Nat.div_self (by omega)]; omega
theorem pcB_len (h : UInt8) (t : List UInt8) (h5 : ¬ t.length < pcN h) : (pcB h t).length = pcS h := by
  unfold pcB
  rw [Lib.repeatL_length, List.length_take, Nat.min_eq_left (by omega), Nat.mul_comm]
  exact (pcN_S h).2.2.2
theorem bld_below {B b : Nat} {l : List UInt8} {w w' : World} (h : Bld B b l w) (hb : Below w.heap.size w w') : Bld B b l w' := by
  have key : ∀ p, Lib.BuilderAt 56 5 B b p (Lib.byteCells l) w → Lib.BuilderAt 56 5 B b p (Lib.byteCells l) w' := by
    rintro p ⟨h1, v, hbk, hown, hne⟩
    refine ⟨h1, v, ?_, (Fr.of_below (B := 0) hb []).owns hown (by simp), hne⟩
    rw [hb.block b (Array.getElem?_eq_some_iff.1 hbk).1]; exact hbk
  rcases h with h | h
  · exact .inl (key _ h)
  · exact .inr (key _ h)
theorem rep_run (u v : Value) (w : World) : (callFunc 31 #[u, v]).run Try.prog w = .ok (.enter 31 #[u, v]) w := by kernel_rfl
theorem wrs_run (u v : Value) (w : World) : (callFunc 30 #[u, v]).run Try.prog w = .ok (.enter 30 #[u, v]) w := by kernel_rfl
def UnpOk (r : Except Nat (List UInt8)) (e : Ending) : Prop :=
  match r with
  | .error k => e = .returned (.tuple #[.string ⟨#[]⟩, .int .i64 k])
  | .ok l => e = .returned (.tuple #[.string ⟨l.toArray⟩, .int .i64 0])

set_option maxHeartbeats 4000000 in
set_option maxRecDepth 100000 in
theorem unpack_any (s : ByteArray) (n : Int) (w : World) (hs : s.size ≤ maxLen) : Calls Try.prog 10 #[.string s, .int .i64 n] w fun e w' => UnpOk (unpP s.data.toList n) e ∧ Below w.heap.size w w' := by
  unfold maxLen at hs
  by_cases hn : n < 0 ∨ 1048576 < n
  · have HF : Hid (unpP s.data.toList n = .error 2) := by show _ = _; unfold unpP; rw [if_pos hn]
    by_cases h0 : n < 0
    · have d0 : decide (n < 0) = true := by simp; omega
      go_enter Try.func10, Try.ntmps10
      go_wp2_with fail
      refine bodyPost_ret (v := .tuple #[.string ⟨#[]⟩, .int .i64 2]) (by simp [results, Try.f10, go_sem]) rfl ⟨?_, Below.refl _ _⟩
      rw [HF.out]; rfl
    · have d0 : decide (n < 0) = false := by simp; omega
      have d1 : decide (1048576 < n) = true := by simp; omega
      go_enter Try.func10, Try.ntmps10
      go_wp2_with fail
      refine bodyPost_ret (v := .tuple #[.string ⟨#[]⟩, .int .i64 2]) (by simp [results, Try.f10, go_sem]) rfl ⟨?_, Below.refl _ _⟩
      rw [HF.out]; rfl
  · obtain ⟨N, rfl⟩ : ∃ N : Nat, n = (N : Int) := ⟨n.toNat, by omega⟩
    have hN : N ≤ 1048576 := by omega
    have HU : Hid (unpP s.data.toList (N : Int) = unpG N s.data.toList []) := by show _ = _; unfold unpP; rw [if_neg hn]; rfl
    have d1 : decide ((1048576 : Int) < (N : Int)) = false := by simp; omega
    clear hn
    have HBN : Hid (Bld w.heap.size w.heap.size [] (w.alloc (.cells #[.pointer none, .slice none 0 0] 56))) :=
      .inl ⟨Nat.le_refl _, _, heap_alloc_new w _, ⟨rfl, .inl ⟨rfl, rfl⟩⟩, by simp [Value.ownBlock]⟩
    have HBB := Lib.hid ((Below.refl w.heap.size w).alloc (Nat.le_refl _) (.cells #[.pointer none, .slice none 0 0] 56))
    go_enter Try.func10, Try.ntmps10
    go_upto_region 4 with fail
    have hz : w.heap.size < (w.alloc (.cells #[.pointer none, .slice none 0 0] 56)).heap.size := by simp
    generalize w.alloc (.cells #[.pointer none, .slice none 0 0] 56) = wz at *
    generalize hB : w.heap.size = B at *
    have HB := Lib.hid hB
    clear hB
    go_loopw [0] (fun vs wr => ∃ (r : ByteArray) (out : List UInt8), vs = .string r ∧ Hid (Bld B B out wr) ∧ Hid (unpG N s.data.toList [] = unpG N r.data.toList out) ∧ out.length ≤ N ∧ r.size ≤ s.size ∧ Hid (Below B w wr) ∧ B ≤ wr.heap.size) (fun vs _ => match vs with | .string r => r.size | _ => 0)
    case atStart => exact ⟨s, [], rfl, HBN.out, rfl, Nat.zero_le _, Nat.le_refl _, HBB.out, by omega⟩
    case round =>
      obtain ⟨r, out, rfl, hbl, hun, hol, hrs, hbw, hszr⟩ := hrel
      have HLEN := Lib.hid (len_any B B out wr hbl.out)
      by_cases hlt : out.length < N
      · have dlt : decide ((out.length : Int) < (N : Int)) = true := by simp; omega
        by_cases h0 : r.size = 0
        · have hln : r.data.toList = [] := List.eq_nil_of_length_eq_zero (by rw [ba_size]; exact h0)
          have e1 : (r.toList == []) = true := by rw [ByteArray.toList_eq, hln]; rfl
          have HF : Hid (unpP s.data.toList (N : Int) = .error 5) := by show _ = _; rw [HU.out, hun.out, hln, unpG_nil hlt]
          clear hln h0
          go_wp2_with fail
          refine HLEN.out.mono ?_
          rintro e w1 ⟨rfl, rfl⟩
          go_wp2_with fail
          refine bodyPost_ret (v := .tuple #[.string ⟨#[]⟩, .int .i64 5]) (by simp [results, Try.f10, go_sem]) rfl ⟨?_, by rw [HB.out]; exact hbw.out⟩
          rw [HF.out]; rfl
        · have hrs0 : 0 < r.size := by omega
          have hne : r.data.toList ≠ [] := by intro h; have := ba_size r; rw [h] at this; simp at this; omega
          have e1 : (r.toList == []) = false := by rw [ByteArray.toList_eq, beq_eq_false_iff_ne]; exact hne
          obtain ⟨h, hh⟩ : ∃ h, r[0] = h := ⟨_, rfl⟩
          have HX : Hid (r.data.toList = h :: (r.extract 1 r.size).data.toList) := by
            show _ = _
            rw [extract_list, List.take_of_length_le (by rw [ba_size]; exact Nat.le_refl _), ← hh]
            cases hr : r.data.toList with
            | nil => exact absurd hr hne
            | cons a t =>
              have : r[0] = a := by
                have h1 : r.data.toList[0]'(by rw [hr]; simp) = r[0] := by rw [Array.getElem_toList]; rfl
                rw [← h1]; simp [hr]
              rw [this]; rfl
          obtain ⟨t, ht⟩ : ∃ t, t = r.extract 1 r.size := ⟨_, rfl⟩
          have htl : t.size + 1 ≤ r.size := by rw [ht, ByteArray.size_extract]; omega
          have hex : r.extract 1 r.size = t := ht.symm
          rw [hex] at HX
          have HUT : Hid (unpG N s.data.toList [] = unpG N (h :: t.data.toList) out) := by show _ = _; rw [hun.out, HX.out]
          have h256 := h.toNat_lt
          obtain ⟨hv, hhv⟩ : ∃ hv, h.toNat = hv := ⟨_, rfl⟩
          have hr0 : (r[0]).toNat = hv := by rw [hh]; exact hhv
          have HHV := Lib.hid hhv
          rw [hhv] at h256
          have HR0 : Hid (wrap64 ((r[0]).toNat : Int) = (hv : Int)) := by show _ = _; rw [wrap64_byte', hr0]
          clear hne h0 ht hh hhv hr0
          by_cases h128 : hv = 128
          · have e2 : ((hv : Int) == 128) = true := by rw [h128]; rfl
            have HU2 : Hid (unpG N s.data.toList [] = unpG N t.data.toList out) := by show _ = _; rw [HUT.out, unpG_skip hlt (by rw [HHV.out]; exact h128)]
            clear h128
            go_wp2_with fail
            refine HLEN.out.mono ?_
            rintro e w1 ⟨rfl, rfl⟩
            go_upto_region 7 with fail
            go_cut [7] from 16 to 54 (fun v7 wx => v7 = .int .i64 (hv : Nat) ∧ wx = wr)
            case first =>
              go_wp2_with fail
              go_meet
              case rel => exact ⟨by rw [HR0.out], rfl⟩
            case rest =>
              obtain ⟨rfl, hwc⟩ := hcut
              have hwc2 := hwc.symm
              subst hwc2
              clear hwc
              go_wp2_with fail
              go_roundw
              case rel => exact ⟨t, out, rfl, hbl.out, HU2.out, hol, by omega, hbw.out, hszr⟩
              case measure => show t.size < r.size; omega
          · have e2 : ((hv : Int) == 128) = false := by rw [beq_eq_false_iff_ne]; intro hx; exact h128 (Int.ofNat.inj hx)
            have H128 := Lib.hid h128
            clear h128
            go_wp2_with fail
            refine HLEN.out.mono ?_
            rintro e w1 ⟨rfl, rfl⟩
            go_upto_region 7 with fail
            go_cut [7] from 16 to 54 (fun v7 wx => v7 = .int .i64 (hv : Nat) ∧ wx = wr)
            case first =>
              go_wp2_with fail
              go_meet
              case rel => exact ⟨by rw [HR0.out], rfl⟩
            case rest =>
              obtain ⟨rfl, hwc⟩ := hcut
              have hwc2 := hwc.symm
              subst hwc2
              clear hwc HR0
              go_upto_if 31 with fail
              go_cut [8, 9] from 16 to 54 (fun v8 v9 wx => v8 = .int .i64 (pcN h : Nat) ∧ v9 = .int .i64 (pcS h : Nat) ∧ wx = wr)
              case first =>
                by_cases hb : 128 < hv
                · have db : decide ((128 : Int) < (hv : Int)) = true := by simp; omega
                  obtain ⟨q, hq⟩ : ∃ q : Nat, q = 257 - hv := ⟨_, rfl⟩
                  have hqi : (257 : Int) - (hv : Int) = (q : Int) := by omega
                  have HPN : Hid (pcN h = 1) := by show _ = _; unfold pcN; rw [HHV.out, if_pos hb]
                  have HPS : Hid (pcS h = q) := by show _ = _; unfold pcS; rw [HHV.out, if_pos hb, hq]
                  clear hq
                  go_wp2_with fail
                  go_meet
                  case rel => exact ⟨by rw [HPN.out]; rfl, by rw [HPS.out], rfl⟩
                · have db : decide ((128 : Int) < (hv : Int)) = false := by simp; omega
                  have HPN : Hid (pcN h = hv + 1) := by show _ = _; unfold pcN; rw [HHV.out, if_neg hb]
                  have HPS : Hid (pcS h = hv + 1) := by show _ = _; unfold pcS; rw [HHV.out, if_neg hb]
                  go_wp2_with fail
                  go_meet
                  case rel => exact ⟨by rw [HPN.out]; rfl, by rw [HPS.out]; rfl, rfl⟩
              case rest =>
                obtain ⟨rfl, rfl, hwc⟩ := hcut
                have hwc2 := hwc.symm
                subst hwc2
                clear hwc
                have HNS := Lib.hid (pcN_S h)
                obtain ⟨pn, hpn⟩ : ∃ pn, pcN h = pn := ⟨_, rfl⟩
                obtain ⟨ps, hps⟩ : ∃ ps, pcS h = ps := ⟨_, rfl⟩
                rw [hpn, hps]
                rw [hpn, hps] at HNS
                have HPN := Lib.hid hpn
                have HPS := Lib.hid hps
                have hpn1 := HNS.out.1
                have hps1 := HNS.out.2.2.1
                have hpn2 := HNS.out.2.1
                clear hpn hps
                by_cases h4 : N - out.length < ps
                · have d4 : decide ((N : Int) - (out.length : Int) < (ps : Int)) = true := by simp; omega
                  have HF : Hid (unpP s.data.toList (N : Int) = .error 4) := by show _ = _; rw [HU.out, HUT.out, unpG_form hlt (by rw [HHV.out]; exact H128.out) (by rw [HPS.out]; exact h4)]
                  go_wp2_with fail
                  refine HLEN.out.mono ?_
                  rintro e w1 ⟨rfl, rfl⟩
                  go_wp2_with fail
                  refine bodyPost_ret (v := .tuple #[.string ⟨#[]⟩, .int .i64 4]) (by simp [results, Try.f10, go_sem]) rfl ⟨?_, by rw [HB.out]; exact hbw.out⟩
                  rw [HF.out]; rfl
                · have d4 : decide ((N : Int) - (out.length : Int) < (ps : Int)) = false := by simp; omega
                  by_cases h5 : t.size < pn
                  · have d5 : decide ((t.size : Int) < (pn : Int)) = true := by simp; omega
                    have HF : Hid (unpP s.data.toList (N : Int) = .error 5) := by show _ = _; rw [HU.out, HUT.out, unpG_short hlt (by rw [HHV.out]; exact H128.out) (by rw [HPS.out]; exact h4) (by rw [HPN.out, ba_size]; exact h5)]
                    go_wp2_with fail
                    refine HLEN.out.mono ?_
                    rintro e w1 ⟨rfl, rfl⟩
                    go_wp2_with fail
                    refine bodyPost_ret (v := .tuple #[.string ⟨#[]⟩, .int .i64 5]) (by simp [results, Try.f10, go_sem]) rfl ⟨?_, by rw [HB.out]; exact hbw.out⟩
                    rw [HF.out]; rfl
                  · have d5 : decide ((t.size : Int) < (pn : Int)) = false := by simp; omega
                    obtain ⟨q, hq⟩ : ∃ q, ps / pn = q := ⟨_, rfl⟩
                    have hqi : (ps : Int).tdiv (pn : Int) = (q : Int) := by rw [← hq]; rfl
                    have hpt : pn ≤ t.size := by omega
                    have hp0 : (pn : Int) ≠ 0 := by omega
                    have hpb : ((pn : Int) == 0) = false := by rw [beq_eq_false_iff_ne]; exact hp0
                    have HQ := Lib.hid hq
                    go_wp2_with fail
                    refine HLEN.out.mono ?_
                    rintro e w1 ⟨rfl, rfl⟩
                    go_upto_region 18 with fail
                    clear h5 d4 d5 hq
                    have hpti : (pn : Int) ≤ (t.size : Int) := by omega
                    have hpz : ¬ pn = 0 := by omega
                    have hql : q ≤ 256 := by rw [← HQ.out]; exact Nat.le_trans (Nat.div_le_self _ _) hps1
                    have hqw : IntKind.i64.wrap (q : Int) = (q : Int) := by rw [IntKind.wrap_i64]; omega
                    have hpn0i : (0 : Int) ≤ (pn : Int) := by omega
                    have HX0 : Hid ((t.extract 0 pn).data.toList = t.data.toList.take pn ∧ (t.extract 0 pn).size = pn) := by
                      refine ⟨by rw [extract_list, List.drop_zero], by rw [ByteArray.size_extract]; omega⟩
                    have HXm : Hid ((t.extract pn t.size).data.toList = t.data.toList.drop pn ∧ (t.extract pn t.size).size = t.size - pn) := by
                      refine ⟨by rw [extract_list, List.take_of_length_le (by rw [ba_size]; exact Nat.le_refl _)], by rw [ByteArray.size_extract]; omega⟩
                    obtain ⟨pc, hpc⟩ : ∃ pc : List UInt8, pc = Lib.repeatL (t.extract 0 pn).data.toList q := ⟨_, rfl⟩
                    have HPC : Hid (pc = pcB h t.data.toList) := by show _ = _; rw [hpc, HX0.out.1]; unfold pcB; rw [HPN.out, HPS.out, HQ.out]
                    have hpcl : pc.length = ps := by rw [HPC.out, pcB_len h _ (by rw [HPN.out, ba_size]; omega), HPS.out]
                    have HREP : Hid (∀ w, Calls Try.prog 31 #[.string (t.extract 0 pn), .int .i64 (q : Int)] w fun e w' => ∃ v, e = .returned v ∧ (v = .string ⟨pc.toArray⟩ ∧ Below w.heap.size w w')) := fun w => by
                      have hqs : pn * q = ps := by rw [← HQ.out]; exact HNS.out.2.2.2
                      have hq1 : q ≤ ps := by rw [← hqs]; exact Nat.le_mul_of_pos_left q (by omega)
                      refine (Try.strings_Repeat (t.extract 0 pn) q w (by omega) (by rw [HX0.out.2, hqs]; omega)).mono ?_
                      rintro e w' ⟨rfl, hb⟩
                      exact ⟨_, rfl, by rw [hpc], hb⟩
                    have hdb : Below wr.heap.size wr wr.drew := (Below.refl _ _).drew
                    have HBL1 : Hid (Bld B B out wr.drew) := bld_below hbl.out hdb
                    have HBW1 : Hid (Below B w wr.drew) := hbw.out.trans (hdb.mono hszr)
                    have HSZ1 : Hid (B ≤ wr.drew.heap.size) := hszr
                    obtain ⟨pcb, hpcb⟩ : ∃ t : ByteArray, t = ⟨pc.toArray⟩ := ⟨_, rfl⟩
                    have HPCB : Hid (pcb.data.toList = pc ∧ pcb.size = ps) := ⟨by rw [hpcb], by rw [hpcb, ba_len, hpcl]⟩
                    rw [← hpcb] at HREP
                    have HWR : Hid (∀ w, Bld B B out w → B ≤ w.heap.size → Calls Try.prog 30 #[.pointer (some ⟨B, 0, none⟩), .string pcb] w fun e w' => ∃ v, e = .returned v ∧ (v = .tuple #[.int .i64 pcb.size, .nilIface] ∧ Bld B B (out ++ pc) w' ∧ Below B w w')) := fun w h1 h2 => by
                      refine (writeString_any B B out pcb w h1 (by rw [HPCB.out.2]; omega) h2).mono ?_
                      rintro e w' ⟨rfl, hb1, hb2⟩
                      rw [HPCB.out.1] at hb1
                      exact ⟨_, rfl, rfl, hb1, hb2⟩
                    clear hpc hpcb hdb hbl hbw hszr
                    go_cut [] from 16 to 54 (fun wx => Hid (Bld B B (out ++ pc) wx) ∧ Hid (Below B w wx) ∧ B ≤ wx.heap.size)
                    case first =>
                      go_region_law (first
                        | (refine step_call (vs := #[.string (t.extract 0 pn), .int .i64 (q : Int)]) rfl rfl ?_ (rep_run _ _ _) (HREP.out _) ?_; simp [Act.eval, Act.put]; rintro vX wX ⟨rfl, hbX⟩; have HBL1 : Hid (Bld B B out wX) := bld_below HBL1.out hbX; have HBW1 := Lib.hid (HBW1.out.trans (hbX.mono HSZ1.out)); have HSZ1 := Lib.hid (Nat.le_trans HSZ1.out hbX.size); clear hbX)
                        | (refine step_call (vs := #[.pointer (some ⟨B, 0, none⟩), .string pcb]) rfl rfl ?_ (wrs_run _ _ _) (HWR.out _ HBL1.out HSZ1.out) ?_; simp [Act.eval]; rintro vX wX ⟨rfl, hbY, hbX⟩; have HBL2 := Lib.hid hbY; have HBW2 := Lib.hid (HBW1.out.trans hbX); have HSZ2 := Lib.hid (Nat.le_trans HSZ1.out hbX.size); clear hbX hbY))
                      all_goals
                        go_wp2_with fail
                        go_meet
                        case rel => exact ⟨HBL2.out, HBW2.out, HSZ2.out⟩
                    case rest =>
                      obtain ⟨hbl4, hbw4, hsz4⟩ := hcut
                      have HU2 : Hid (unpG N s.data.toList [] = unpG N (t.extract pn t.size).data.toList (out ++ pc)) := by
                        show _ = _
                        rw [HUT.out, unpG_step hlt (by rw [HHV.out]; exact H128.out) (by rw [HPS.out]; omega) (by rw [HPN.out, ba_size]; omega), HXm.out.1, HPN.out, HPC.out]
                      have hxs := HXm.out.2
                      have hol2 : (out ++ pc).length ≤ N := by rw [List.length_append, hpcl]; omega
                      go_wp2_with fail
                      go_roundw
                      case rel => exact ⟨_, _, rfl, hbl4.out, HU2.out, hol2, by omega, hbw4.out, hsz4⟩
                      case measure => show (t.extract pn t.size).size < r.size; omega
      · have dlt : decide ((out.length : Int) < (N : Int)) = false := by simp; omega
        by_cases h0 : r.size = 0
        · have hln : r.data.toList = [] := List.eq_nil_of_length_eq_zero (by rw [ba_size]; exact h0)
          have e1 : (r.toList == []) = true := by rw [ByteArray.toList_eq, hln]; rfl
          have e2 : (r.toList != []) = false := by unfold bne; rw [e1]; rfl
          have HF : Hid (unpP s.data.toList (N : Int) = .ok out) := by show _ = _; rw [HU.out, hun.out, hln, unpG_done hlt]
          have HST := Lib.hid (bldString_any B B out wr hbl.out hszr)
          clear hln h0
          go_wp2_with fail
          refine HLEN.out.mono ?_
          rintro e w1 ⟨rfl, rfl⟩
          go_wp2_with fail
          refine HST.out.mono ?_
          rintro e w2 ⟨rfl, hb2⟩
          have HB2 := Lib.hid (hbw.out.trans hb2)
          clear hb2
          go_wp2_with fail
          refine bodyPost_ret (v := .tuple #[.string ⟨out.toArray⟩, .int .i64 0]) (by simp [results, Try.f10, go_sem]) rfl ⟨?_, by rw [HB.out]; exact HB2.out⟩
          rw [HF.out]; rfl
        · have hne : r.data.toList ≠ [] := by intro h; have := ba_size r; rw [h] at this; simp at this; omega
          have e1 : (r.toList == []) = false := by rw [ByteArray.toList_eq, beq_eq_false_iff_ne]; exact hne
          have e2 : (r.toList != []) = true := by unfold bne; rw [e1]; rfl
          have HF : Hid (unpP s.data.toList (N : Int) = .error 6) := by show _ = _; rw [HU.out, hun.out, unpG_more hlt hne]
          clear hne h0
          go_wp2_with fail
          refine HLEN.out.mono ?_
          rintro e w1 ⟨rfl, rfl⟩
          go_wp2_with fail
          refine bodyPost_ret (v := .tuple #[.string ⟨#[]⟩, .int .i64 6]) (by simp [results, Try.f10, go_sem]) rfl ⟨?_, by rw [HB.out]; exact hbw.out⟩
          rw [HF.out]; rfl
end Go.Proofs.Ytakileiomgaahaa
