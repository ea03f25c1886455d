/-
  Walk: the reference function Stored.
-/
import Derived.Test.YtppfjofaegbbjaaT12
namespace Go.Proofs.Ytppfjofaegbbjaa
open Go.RowKit

theorem brow_empty (w : World) (e : TypeId) : BRow (w.alloc (.cells #[] e)) w.heap.size e (.slice (some ⟨w.heap.size, 0, none⟩) 0 0) [] :=
  World.ownsRow_made w #[] 0 (Nat.le_refl _) (Nat.zero_le _) rfl

theorem take_snoc (s : ByteArray) (k : Nat) (h : k < s.size) : s.data.toList.take (k + 1) = s.data.toList.take k ++ [s[k]] := by
  rw [List.take_succ_eq_append_getElem (by simpa using h)]; rfl

set_option maxRecDepth 100000 in
set_option maxHeartbeats 2000000 in
theorem rstored_any (s : ByteArray) (w : World) (hs : s.size ≤ maxLen) :
    Calls Try.prog 10 #[.string s] w fun e w' => e = .returned (.string ⟨(stored (s.data.toList.take 1048576)).toArray⟩) ∧ Below w.heap.size w w' := by
  have hin := rinput_any s w hs
  have hz := inp_size s
  have hl := inp_list s
  generalize inp s = t at *
  have HL := Lib.hid hl
  have HI := Lib.hid hin
  clear hl hin
  go_enter Try.func10, Try.ntmps10
  go_wp2_with fail
  refine HI.out.mono ?_
  rintro e w1 ⟨rfl, rfl⟩
  clear HI
  go_wp2_with fail
  have hr0 := brow_empty w 5
  have hb0 : Below w.heap.size w (w.alloc (.cells #[] 5)) := (Below.refl _ _).alloc (Nat.le_refl _) _
  obtain ⟨B, hB⟩ : ∃ B, B = w.heap.size := ⟨_, rfl⟩
  rw [← hB] at hr0 hb0 ⊢
  have hs0 : B ≤ (w.alloc (.cells #[] 5)).heap.size := by simp; omega
  have HB := Lib.hid hB
  clear hB
  go_loopw [0, 3, 4, 5, 6] (fun vt v _ _ _ wr => ∃ (r : ByteArray) (done : List UInt8), vt = .string r ∧ BRow wr B 5 v done ∧ done.length + 2 * r.size ≤ 20000000 ∧ Hid (done ++ stored r.data.toList = stored (s.data.toList.take 1048576)) ∧ Below B w wr ∧ B ≤ wr.heap.size) (fun vt _ _ _ _ _ => strLen vt)
  case atStart => exact ⟨t, [], rfl, hr0, by simp; omega, by show _ = _; rw [← HL.out]; rfl, hb0, hs0⟩
  case round =>
    obtain ⟨r, done, rfl, hown, hlen, hst, hbel, hsz⟩ := hrel
    clear hr0 hb0 hs0
    obtain ⟨n, hn⟩ : ∃ n, n = min r.size 65535 := ⟨_, rfl⟩
    have hn1 : n ≤ r.size := by omega
    have hn2 : n ≤ 65535 := by omega
    go_upto_region 3 with (fail)
    go_cut [4] (fun v wx => v = .int .i64 n ∧ wx = wr)
    case first =>
      go_wp2_with fail
      all_goals
        go_meet
        refine ⟨?_, rfl⟩
        congr 1
        omega
    case rest =>
      obtain ⟨rfl, rfl⟩ := hcut
      obtain ⟨la, hla⟩ : ∃ la, la = if r.size ≤ 65535 then 1 else 0 := ⟨_, rfl⟩
      have hla1 : la ≤ 1 := by rw [hla]; split <;> omega
      have HLA := Lib.hid hla
      have HN := Lib.hid hn
      clear hla hn
      obtain ⟨wr, rfl⟩ : ∃ wr : World, wr = wc := ⟨_, rfl⟩
      go_upto_if 16 with (fail)
      go_cut [5] (fun v wx => v = .int .u8 la ∧ wx = wr)
      case first =>
        by_cases hr : r.size ≤ 65535
        · have e1 : ((n : Int) == (r.size : Int)) = true := by have := HN.out; simp; omega
          have e2 : Hid (la = 1) := by show _ = _; rw [HLA.out, if_pos hr]
          go_wp2_with fail
          go_meet
          exact ⟨by rw [e2.out]; rfl, rfl⟩
        · have e1 : ((n : Int) == (r.size : Int)) = false := by have := HN.out; simp; omega
          have e2 : Hid (la = 0) := by show _ = _; rw [HLA.out, if_neg hr]
          go_wp2_with fail
          go_meet
          exact ⟨by rw [e2.out]; rfl, rfl⟩
      case rest =>
        obtain ⟨rfl, rfl⟩ := hcut
        go_wp2_with (at_builtin; refine wpList_app del_u8 hown hsz rfl rfl rfl (m := 4) rfl (by simp [Value.oneCell']) rfl (by omega) (by unfold maxLen; omega) ?_)
        intro r1 cap1 w1 ho1 hg1 _
        have hown1 := brow_more ho1 (hdr la n) (hdr_cells la la n rfl (by omega) (by omega)) rfl
        obtain ⟨hbel1, hsz1⟩ := below_app hbel hsz hown hg1
        have hl1 : (done ++ hdr la n).length ≤ done.length + 5 := by simp [hdr]
        clear ho1 hg1 hown hbel hsz
        generalize Value.slice (some { block := r1, off := 0 }) (done.length + (4 + 1)) cap1 = v1 at *
        go_wp2_with fail
        obtain ⟨wo, rfl⟩ : ∃ wo : World, wo = w1 := ⟨_, rfl⟩
        go_loopw [3, 6] (fun v vi wi => ∃ (k : Nat) (acc : List UInt8), vi = .int .i64 k ∧ k ≤ n ∧ BRow wi B 5 v acc ∧ Hid (acc = done ++ hdr la n ++ r.data.toList.take k) ∧ Below B w wi ∧ B ≤ wi.heap.size) (fun _ vi _ => n - (intOf vi).toNat)
        case atStart => exact ⟨0, _, rfl, Nat.zero_le _, hown1, by show _ = _; simp, hbel1, hsz1⟩
        case round =>
          clear hown1 hbel1 hsz1
          obtain ⟨k, acc, rfl, hk, hown, hacc, hbel, hsz⟩ := hrel
          have hl2 : acc.length ≤ done.length + 5 + k := by rw [hacc.out]; simp [hdr]; omega
          by_cases hkn : k < n
          · have hkr : k < r.size := by omega
            go_wp2_with (at_builtin; refine wpList_app del_u8 hown hsz rfl rfl rfl (m := 0) rfl (by simp [Value.oneCell']) rfl (by omega) (by unfold maxLen; omega) ?_)
            intro r2 cap2 w2 ho2 hg2 _
            have hown2 := brow_more ho2 [r[k]] rfl (by simp)
            obtain ⟨hbel2, hsz2⟩ := below_app hbel hsz hown hg2
            clear ho2 hg2 hown hbel hsz
            go_wp2_with fail
            go_roundw
            case rel => exact ⟨k + 1, _, by go_num, by omega, hown2, by show _ = _; rw [hacc.out, take_snoc r k hkr, List.append_assoc (done ++ hdr la n)], hbel2, hsz2⟩
            case measure => simp [intOf]; omega
          · obtain rfl : k = n := by omega
            by_cases hr : r.size ≤ 65535
            · have e2 : la = 1 := by rw [HLA.out, if_pos hr]
              subst e2
              have hcv := run_str_of Try.underlying37 Try.underlying5 Try.underlying9 hown
              have hfin : Hid (acc = stored (s.data.toList.take 1048576)) := by
                show _ = _
                have hk' : k = r.size := by have := HN.out; omega
                rw [hacc.out, ← hst.out, stored, if_pos (by simpa using hr), hk', List.take_of_length_le (by simp)]
                simp
              rw [hfin.out] at hcv
              clear hown
              go_wp2_with fail
              go_ret
              rw [HB.out] at hbel
              exact ⟨rfl, hbel⟩
            · have e2 : la = 0 := by rw [HLA.out, if_neg hr]
              subst e2
              have hk' : k = 65535 := by have := HN.out; omega
              subst hk'
              go_wp2_with fail
              go_roundw
              case rel =>
                refine ⟨_, _, rfl, hown, ?_, ?_, hbel, hsz⟩
                · rw [ByteArray.size_extract]; omega
                · show _ = _
                  have h := hst.out
                  rw [stored, if_neg (by simp; omega)] at h
                  rw [hacc.out, ← h, extract_list]
                  simp [List.take_of_length_le]
              case measure => simp [strLen]; omega
end Go.Proofs.Ytppfjofaegbbjaa
