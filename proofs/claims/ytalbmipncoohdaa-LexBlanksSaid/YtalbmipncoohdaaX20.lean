/-
  Walk: the law LexBlanks.
-/
import Derived.Test.YtalbmipncoohdaaX19
namespace Go.Proofs.Ytalbmipncoohdaa
open Go.RowKit

theorem rendL_snoc (l : List Tk) (t : Tk) : rendL (l ++ [t]) = rendL l ++ render t ++ [32] := by simp [rendL]
theorem rendL_bound (l : List Tk) (h : ∀ t ∈ l, (render t).length ≤ 20000) : (rendL l).length ≤ 20001 * l.length := by
  induction l with
  | nil => simp [rendL]
  | cons t l ih =>
    have h1 := h t (by simp)
    have h2 := ih fun t ht => h t (by simp [ht])
    simp [rendL] at h2 ⊢
    omega
theorem render_le (t : Tk) (h : (t.kind = 2 → t.text.any badC = false ∧ t.text.length ≤ 256) ∧ t.text.length ≤ 16384) : (render t).length ≤ 20000 := by
  unfold render
  split
  · rename_i hk
    have := escL_len t.text
    have := (h.1 hk).2
    simp; omega
  · omega

set_option maxRecDepth 100000 in
set_option maxHeartbeats 4000000 in
theorem lawBlanks (s : ByteArray) (w : World) (hs : s.size ≤ maxLen) :
    Calls Try.prog 7 #[.string s] w fun e w' => e = .returned (.bool true) ∧ Below w.heap.size w w' := by
  go_enter Try.func7, Try.ntmps7
  go_wp2_with fail
  refine (tokens_any s _ hs).mono ?_
  rintro e w1 ⟨hok, hb1⟩
  have hlen : s.data.toList.length = s.size := by simp
  cases hr : toksP s.data.toList with
  | error x =>
    have herr := toksP_err _ _ hr
    rw [hr] at hok
    obtain rfl := hok
    have hc1 : ((x.2 : Int) != 0) = true := by simp; omega
    clear hr herr hlen
    go_wp2_with fail
    refine (example_any _).mono ?_
    rintro e w4 ⟨rfl, hb4⟩
    go_wp2_with fail
    go_ret
    exact ⟨rfl, bthen hb1 hb4⟩
  | ok l =>
    rw [hr] at hok
    obtain ⟨v, rfl, hrow⟩ := hok
    by_cases hbig : 16364 < s.size
    · have hc1 : decide ((16364 : Int) < (s.size : Int)) = true := by simp; omega
      clear hr hlen
      go_wp2_with fail
      refine (example_any _).mono ?_
      rintro e w4 ⟨rfl, hb4⟩
      go_wp2_with fail
      go_ret
      exact ⟨rfl, bthen hb1 hb4⟩
    have hc1 : decide ((16364 : Int) < (s.size : Int)) = false := by simp; omega
    obtain ⟨m, hm1, hm2⟩ := toksP_wrap _ _ (by omega) hr
    have HM1 := Lib.hid hm1
    have HM2 := Lib.hid hm2
    have HR := Lib.hid hr
    have HL := Lib.hid hlen
    clear hm1 hm2 hr hlen
    go_wp2_with fail
    refine (tokens_any _ _ ?_).mono ?_
    · have h1 : (ByteArray.mk #[32, 9, 35, 32, 97, 32, 34, 32, 98, 10]).size = 10 := rfl
      have h2 : (ByteArray.mk #[10, 32, 35, 32, 99]).size = 5 := rfl
      simp only [ByteArray.size_append, h1, h2]; unfold maxLen; omega
    rintro e w2 ⟨hok, hb2⟩
    have e1 : (ByteArray.mk #[32, 9, 35, 32, 97, 32, 34, 32, 98, 10] ++ s ++ ByteArray.mk #[10, 32, 35, 32, 99]).data.toList = preB ++ s.data.toList ++ sufB := by simp [preB, sufB]
    rw [e1, HM1.out] at hok
    clear e1
    obtain ⟨v2, rfl, hrow2⟩ := hok
    have hln := toksP_len _ _ HR.out
    have hal := Lib.hid (alike_any v v2 l m (by rw [HM2.out]; rfl) _ _ w2 ((Fr.of_below (B := 0) hb2 []).owns hrow (by simp)) hrow2 (by omega))
    clear hrow2 HM1 HM2
    go_wp2_with fail
    refine hal.out.mono ?_
    rintro e w3 ⟨rfl, n3, rfl⟩
    clear hal
    have hb3 : Hid (Below w1.heap.size w1 (w2.drewN n3)) := below_drewN hb2 n3
    generalize w2.drewN n3 = w3 at *
    clear hb2
    obtain ⟨hgr, _⟩ := toksP_good _ _ HR.out
    have HG := Lib.hid hgr
    clear hgr
    obtain ⟨g, c, rfl, hc⟩ := trow_block hrow hln.2
    obtain ⟨n, hn⟩ : ∃ n, n = l.length := ⟨_, rfl⟩
    rw [← hn] at hln hc ⊢
    have HN := Lib.hid hn
    clear hn
    go_wp2_with fail
    go_loopw [8, 9] (fun v8 v9 wr => ∃ (i : Nat), v9 = .int .i64 i ∧ i ≤ n ∧ v8 = .string ⟨(rendL (l.take i)).toArray⟩ ∧ Hid (Below w1.heap.size w1 wr)) (fun _ v9 _ => n - (intOf v9).toNat)
    case atStart => exact ⟨0, rfl, by omega, rfl, hb3⟩
    case round =>
      clear hb3
      obtain ⟨i, rfl, hi, rfl, hbw⟩ := hrel
      by_cases hlt : i < n
      · have hlt' : i < l.length := by have := HN.out; omega
        have hg1 : decide ((i : Int) < (n : Int)) = true := by simp; omega
        have k1 : TRow wr _ (.slice (some ⟨g, 0, none⟩) l.length c) l := (Fr.of_below (B := 0) hbw.out []).owns hrow (by simp)
        obtain ⟨p1, p2, p3⟩ := trow_cells k1 i hlt'
        have hgt := goodRow_get _ HG.out i hlt'
        have hrb : (rendL (l.take i)).length ≤ 20001 * 4097 := by
          have h1 := rendL_bound (l.take i) fun t ht => by
            obtain ⟨j, hj, rfl⟩ := List.getElem_of_mem (List.mem_of_mem_take ht)
            exact render_le _ (goodRow_get _ HG.out j hj)
          have h2 : (l.take i).length ≤ 4097 := by simp; omega
          omega
        have HS : Hid (rendL (l.take (i + 1)) = rendL (l.take i) ++ render l[i] ++ [32]) := by
          show _ = _
          rw [List.take_succ_eq_append_getElem hlt', rendL_snoc]
        have hrd : render l[i] = if l[i].kind = 2 then [34] ++ escL l[i].text ++ [34] else l[i].text := rfl
        generalize render l[i] = rd at *
        generalize l[i].kind = kk at *
        generalize l[i].text = tt at *
        generalize rendL (l.take i) = acc at *
        clear p3 k1
        have hel := escL_len tt
        by_cases hk : kk = 2
        · subst hk
          rw [if_pos rfl] at hrd
          obtain ⟨ht1, ht2⟩ := hgt.1 rfl
          have hlit : litP tt = .ok rd := by
            rw [litP, if_neg (by rw [ht1]; decide), if_neg (by omega), hrd]
          have hrl : rd.length ≤ 1000 := by rw [hrd]; simp; omega
          have HLI := Lib.hid hlit
          clear hgt hrd ht1 hlit
          go_wp2_with fail
          refine (quote_any _ _ ?_).mono ?_
          · show tt.length ≤ _
            omega
          rintro e w4 ⟨rfl, hb4⟩
          have e1 : (ByteArray.mk tt.toArray).data.toList = tt := rfl
          rw [e1, HLI.out]
          clear e1
          simp only [litRes]
          go_wp2_with fail
          refine ⟨⟨i + 1, by go_num, by omega, by rw [HS.out]; exact congrArg Value.string (ByteArray.ext (by simp)), bthen hbw.out hb4⟩, by simp [intOf]; omega⟩
        · rw [if_neg hk] at hrd
          have hk2 : ((kk : Int) == 2) = false := by simp; omega
          subst hrd
          have hgt2 := hgt.2
          clear hgt hk
          go_wp2_with fail
          refine ⟨⟨i + 1, by go_num, by omega, by rw [HS.out]; exact congrArg Value.string (ByteArray.ext (by simp)), hbw⟩, by simp [intOf]; omega⟩
      · have hg1 : decide ((i : Int) < (n : Int)) = false := by simp; omega
        have hall : l.take i = l := List.take_of_length_le (by have := HN.out; omega)
        rw [hall]
        clear hall
        have han := Lib.hid (toksP_anew _ _ HR.out)
        generalize rendL l = acc at *
        by_cases hbig2 : 16384 < acc.length
        · have hc2 : decide ((16384 : Int) < (acc.length : Int)) = true := by simp; omega
          go_wp2_with fail
          refine (example_any _).mono ?_
          rintro e w4 ⟨rfl, hb4⟩
          go_wp2_with fail
          go_ret
          exact ⟨rfl, bthen (bthen hb1 hbw.out) hb4⟩
        · have hc2 : decide ((16384 : Int) < (acc.length : Int)) = false := by simp; omega
          obtain ⟨r, hr1, hr2⟩ := han.out (by omega)
          have HR1 := Lib.hid hr1
          have HR2 := Lib.hid hr2
          clear hr1 hr2 han
          go_wp2_with fail
          refine (tokens_any _ _ ?_).mono ?_
          · show acc.length ≤ _
            unfold maxLen; omega
          rintro e w4 ⟨hok, hb4⟩
          have e1 : (ByteArray.mk acc.toArray).data.toList = acc := rfl
          rw [e1, HR1.out] at hok
          clear e1
          obtain ⟨v4, rfl, hrow4⟩ := hok
          have hrow5 := (Fr.of_below (B := 0) (bthen hbw.out hb4) []).owns hrow (by simp)
          have hal := Lib.hid (alike_any _ _ l r (by rw [HR2.out]; rfl) _ _ w4 hrow5 hrow4 (by have := HN.out; omega))
          rw [← HN.out] at hal
          clear hrow4 hrow5 HR1 HR2
          go_wp2_with fail
          refine hal.out.mono ?_
          rintro e w5 ⟨rfl, n5, rfl⟩
          clear hal
          have hb5 : Below w.heap.size w (w4.drewN n5) := below_drewN (bthen (bthen hb1 hbw.out) hb4) n5
          generalize w4.drewN n5 = w5 at *
          go_wp2_with fail
          refine (example_any _).mono ?_
          rintro e w6 ⟨rfl, hb6⟩
          go_wp2_with fail
          go_ret
          exact ⟨rfl, bthen hb5 hb6⟩
end Go.Proofs.Ytalbmipncoohdaa
