/-
  Plain law: where tokens stand. Walk: the law LexPlaces.
-/
import Derived.Test.YtalbmipncoohdaaX15
namespace Go.Proofs.Ytalbmipncoohdaa
open Go.RowKit

/-- What is promised of a token of a script: it is no end, and its text stands at its place unless it is a string. -/
def TkAt (l : List UInt8) (t : Tk) : Prop := t.kind ≠ 0 ∧ t.at_ < l.length ∧ (t.kind ≠ 2 → t.text ≠ [] ∧ t.text.length ≤ l.length - t.at_ ∧ (l.drop t.at_).take t.text.length = t.text)

theorem tokP_at (l : List UInt8) (p : Nat) (t : Tk) (q : Nat) (h : tokP l p = .ok (t, q)) : TkAt l t ∧ t.at_ = p := by
  have hq := tokP_step l p t q h
  unfold tokP at h
  split at h
  · cases h
  · rename_i c u hu
    have hl : l.length - p = u.length + 1 := by have := congrArg List.length hu; simpa using this
    have key : ∀ (k : Nat) (n : Nat), k ≠ 0 → 0 < n → n ≤ u.length + 1 → TkAt l ⟨k, (c :: u).take n, p⟩ := by
      intro k n hk hn hn'
      refine ⟨hk, by show p < _; omega, fun _ => ⟨?_, ?_, ?_⟩⟩
      · intro h0
        have := congrArg List.length h0
        simp at this
        omega
      · simp; omega
      · simp only
        rw [hu, List.length_take, show min n (c :: u).length = n from by simp; omega]
    split at h
    · rename_i hd
      unfold numT at h
      split at h
      · cases h
      · rename_i n hn
        have hr := numR_run _ _ _ hn
        split at h
        · cases h
        · cases h
          have h1 := runN_le dig (c :: u)
          have h2 : 0 < runN dig (c :: u) := by simp [runN, hd]
          exact ⟨key 1 _ (by decide) (by omega) (by simp at h1; omega), rfl⟩
    · split at h
      · rename_i hd
        unfold nameT at h
        split at h
        · cases h
        · cases h
          have h1 := runN_le (fun c => let8 c || dig c) (c :: u)
          have h2 : 0 < runN (fun c => let8 c || dig c) (c :: u) := by simp [runN, hd]
          exact ⟨key _ _ (by split <;> decide) (by unfold wordN; omega) (by unfold wordN; simp at h1; omega), rfl⟩
      · split at h
        · unfold quoT at h
          split at h
          · cases h
          · split at h
            · cases h
            · cases h
              exact ⟨⟨(fun h => by cases h), by show p < _; omega, fun h => absurd rfl h⟩, rfl⟩
        · unfold opT at h
          split at h
          · cases h
          · cases h
            exact ⟨key 4 _ (by decide) (by omega) (by omega), rfl⟩

/-- Tokens in order, the last one the end. -/
def Placed (l : List UInt8) : Nat → List Tk → Prop
  | _, [] => False
  | p, t :: r => p ≤ t.at_ ∧ match r with
    | [] => t.kind = 0 ∧ t.text = [] ∧ t.at_ = l.length
    | _ :: _ => TkAt l t ∧ Placed l (t.at_ + 1) r
theorem placed_mono (l : List UInt8) (p q : Nat) (r : List Tk) (h : Placed l p r) (hq : q ≤ p) : Placed l q r := by
  cases r with
  | nil => exact h
  | cons t r => exact ⟨Nat.le_trans hq h.1, h.2⟩
theorem toksGo_placed (l : List UInt8) (f n p : Nat) (r : List Tk) (h : toksGo l f n p = .ok r) : Placed l p r := by
  induction f generalizing n p r with
  | zero => cases h
  | succ f ih =>
    unfold toksGo at h
    split at h
    · cases h
    · split at h
      · rename_i hp
        cases h
        exact ⟨Nat.le_refl _, rfl, rfl, hp⟩
      · split at h
        · cases h
        · rename_i t q ht
          split at h
          · cases h
          · rename_i r' hr
            cases h
            have h1 := ih _ _ _ hr
            have h2 := tokP_at _ _ _ _ ht
            have h3 := tokP_step _ _ _ _ ht
            have h4 := toksGo_len _ _ _ _ _ hr
            refine ⟨by rw [h2.2]; exact Nat.le_refl _, ?_⟩
            cases r' with
            | nil => simp at h4
            | cons t' r' => exact ⟨h2.1, placed_mono _ _ _ _ h1 (by rw [h2.2]; omega)⟩
theorem toksP_placed (l : List UInt8) (r : List Tk) (h : toksP l = .ok r) : Placed l 0 r := by
  unfold toksP at h
  split at h
  · cases h
  · exact placed_mono _ _ _ _ (toksGo_placed _ _ _ _ _ h) (Nat.zero_le _)
theorem placed_get (l : List UInt8) (p : Nat) (r : List Tk) (h : Placed l p r) (i : Nat) (hi : i + 1 < r.length) : TkAt l r[i] ∧ r[i].at_ < r[i + 1].at_ := by
  induction r generalizing p i with
  | nil => exact h.elim
  | cons t r ih =>
    cases r with
    | nil => simp at hi
    | cons t' r =>
      cases i with
      | zero => exact ⟨h.2.1, h.2.2.1⟩
      | succ i => exact ih _ h.2.2 i (by simpa using hi)
theorem placed_last (l : List UInt8) (p : Nat) (r : List Tk) (h : Placed l p r) (i : Nat) (hi : i + 1 = r.length) : r[i].kind = 0 ∧ r[i].text = [] ∧ r[i].at_ = l.length := by
  induction r generalizing p i with
  | nil => exact h.elim
  | cons t r ih =>
    cases r with
    | nil => simp at hi; subst hi; exact h.2
    | cons t' r =>
      cases i with
      | zero => simp at hi
      | succ i => exact ih _ h.2.2 i (by simpa using hi)
theorem placed_le (l : List UInt8) (p : Nat) (r : List Tk) (h : Placed l p r) (i : Nat) (hi : i < r.length) : r[i].at_ ≤ l.length := by
  by_cases h1 : i + 1 < r.length
  · have := (placed_get l p r h i h1).1.2.1; omega
  · have := (placed_last l p r h i (by omega)).2.2; omega

theorem toksGo_err0 (l : List UInt8) (f n p : Nat) (x : Nat × Nat) (h : toksGo l f n p = .error x) : x.2 ≠ 0 := by
  induction f generalizing n p x with
  | zero => cases h; exact fun h => by cases h
  | succ f ih =>
    unfold toksGo at h
    split at h
    · cases h; exact fun h => by cases h
    · split at h
      · cases h
      · split at h
        · rename_i e he
          cases h
          intro h0
          have h0 : e = 0 := h0
          obtain ⟨x, hx⟩ := errOf_tok l p (by rw [he]; exact h0)
          rw [he] at hx; cases hx
        · split at h
          · rename_i hr; cases h; exact ih _ _ _ hr
          · cases h
theorem toksP_err (l : List UInt8) (x : Nat × Nat) (h : toksP l = .error x) : x.2 ≠ 0 := by
  unfold toksP at h
  split at h
  · cases h; decide
  · exact toksGo_err0 _ _ _ _ _ h

set_option maxRecDepth 100000 in
set_option maxHeartbeats 4000000 in
theorem lawPlaces (s : ByteArray) (w : World) (hs : s.size ≤ maxLen) :
    Calls Try.prog 4 #[.string s] w fun e w' => e = .returned (.bool true) ∧ Below w.heap.size w w' := by
  go_enter Try.func4, Try.ntmps4
  go_wp2_with fail
  refine (tokens_any s _ hs).mono ?_
  rintro e w1 ⟨hok, hb1⟩
  cases hr : toksP s.data.toList with
  | error x =>
    have herr := toksP_err _ _ hr
    rw [hr] at hok
    obtain rfl := hok
    have hc1 : ((x.2 : Int) != 0) = true := by simp; omega
    clear hr herr
    go_wp2_with fail
    refine (example_any _).mono ?_
    rintro e w4 ⟨rfl, hb4⟩
    go_wp2_with fail
    go_ret
    exact ⟨rfl, bthen hb1 hb4⟩
  | ok l =>
    rw [hr] at hok
    obtain ⟨v, rfl, hrow⟩ := hok
    have hpl := toksP_placed _ _ hr
    have hln := toksP_len _ _ hr
    clear hr
    obtain ⟨g, c, rfl, hc⟩ := trow_block hrow hln.2
    obtain ⟨p1, p2, p3⟩ := trow_cells hrow (l.length - 1) (by omega)
    obtain ⟨e1, e2, e3⟩ := placed_last _ _ _ hpl (l.length - 1) (by omega)
    rw [e1] at p1
    rw [e2] at p2
    rw [e3] at p3
    clear e1 e2 e3
    obtain ⟨n, hn⟩ : ∃ n, n = l.length := ⟨_, rfl⟩
    rw [← hn] at hln hc ⊢
    have hlen : s.data.toList.length = s.size := by simp
    rw [hlen] at p3
    have HN := Lib.hid hn
    have c0 : ((n : Int) == 0) = false := by simp; omega
    rw [← hn] at p1 p2 p3
    clear hn hlen
    go_wp2_with fail
    clear p1 p2 p3 c0
    go_loopw [6] (fun v wr => ∃ (i : Nat), v = .int .i64 i ∧ i + 1 ≤ n ∧ Hid (Below w.heap.size w wr) ∧ Hid (Below w1.heap.size w1 wr)) (fun v _ => n - (intOf v).toNat)
    case atStart => exact ⟨0, rfl, by omega, hb1, Below.refl _ _⟩
    case round =>
      obtain ⟨i, rfl, hi, hbw, hbw1⟩ := hrel
      by_cases hlt : i + 1 < n
      · have k1 : TRow wr _ (.slice (some ⟨g, 0, none⟩) l.length c) l := (Fr.of_below (B := 0) hbw1.out []).owns hrow (by simp)
        obtain ⟨p1, p2, p3⟩ := trow_cells k1 i (by have := HN.out; omega)
        obtain ⟨⟨t1, t2, t3⟩, t4⟩ := placed_get _ _ _ hpl i (by have := HN.out; omega)
        have hq := fun o => (trow_cells (World.ownsRow.alloc k1 o) (i + 1) (by have := HN.out; omega)).2.2
        generalize l[i].kind = kk at *
        generalize l[i].text = tt at *
        generalize l[i].at_ = aa at *
        generalize l[i + 1].at_ = bb at *
        have hlen : s.data.toList.length = s.size := by simp
        rw [hlen] at t2 t3
        have T3 := Lib.hid t3
        clear t3 hlen
        have HQ := Lib.hid hq
        clear hq
        go_wp2_with fail
        have hq := HQ.out (.cells #[.int .i64 kk, .string ⟨tt.toArray⟩, .int .i64 aa] 30)
        have hbl := Blk.new wr 30 #[.int .i64 kk, .string ⟨tt.toArray⟩, .int .i64 aa]
        have hbw2 := Lib.hid (hbw.out.alloc hbw.out.size (.cells #[.int .i64 kk, .string ⟨tt.toArray⟩, .int .i64 aa] 30))
        have hbw3 := Lib.hid (hbw1.out.alloc hbw1.out.size (.cells #[.int .i64 kk, .string ⟨tt.toArray⟩, .int .i64 aa] 30))
        clear hbw hbw1 HQ p1 p2 p3 k1
        generalize wr.alloc (.cells #[.int .i64 kk, .string ⟨tt.toArray⟩, .int .i64 aa] 30) = wz at *
        generalize wr.heap.size = kb at *
        have y0 : wz.cell? ⟨kb, 0, none⟩ = some (.int .i64 kk) := hbl.cell 0
        have y1 : wz.cell? ⟨kb, 1, none⟩ = some (.string ⟨tt.toArray⟩) := hbl.cell 1
        have y2 : wz.cell? ⟨kb, 2, none⟩ = some (.int .i64 aa) := hbl.cell 2
        clear hbl
        have d1 : decide ((aa : Int) < 0) = false := by simp
        have d2 : decide ((bb : Int) ≤ (aa : Int)) = false := by simp; omega
        have d3 : ((kk : Int) == 0) = false := by simp; omega
        have w1 : IntKind.i64.wrap ((i : Int) + 1) = (i : Int) + 1 := IntWalk.i64_in _ (by omega)
        have w2 : (0 : Int) ≤ (i : Int) + 1 := by omega
        have w3 : ((i : Int) + 1).toNat = i + 1 := by omega
        have w4 : (i : Int) + 1 < (n : Int) := by omega
        go_quiet (fail)
        clear w1 w2 w3 w4
        have e2 : decide (bb ≤ aa) = false := by simp; omega
        go_wp2_with fail
        have y0' : (wz.drewN nq).cell? ⟨kb, 0, none⟩ = some (.int .i64 kk) := y0
        have y1' : (wz.drewN nq).cell? ⟨kb, 1, none⟩ = some (.string ⟨tt.toArray⟩) := y1
        have y2' : (wz.drewN nq).cell? ⟨kb, 2, none⟩ = some (.int .i64 aa) := y2
        have hbw4 : Hid (Below w.heap.size w (wz.drewN nq)) := below_drewN hbw2.out nq
        have hbw5 : Hid (Below w1.heap.size w1 (wz.drewN nq)) := below_drewN hbw3.out nq
        clear hbw2 hbw3 y0 y1 y2 hq d1 d2 d3 e2
        generalize wz.drewN nq = wy at *
        by_cases hk2 : kk = 2
        · subst hk2
          go_quiet (fail)
          go_wp2_with fail
          refine ⟨⟨i + 1, by go_num, by omega, below_drewN hbw4.out _, below_drewN hbw5.out _⟩, by simp [intOf]; omega⟩
        · have hk3 : ((kk : Int) != 2) = true := by simp; omega
          obtain ⟨t5, t6, t7⟩ := T3.out hk2
          have hex : s.extract aa (aa + tt.length) = ⟨tt.toArray⟩ := by
            apply ByteArray.ext
            rw [ByteArray.data_extract]
            apply Array.toList_inj.1
            simp only [Array.toList_extract]
            rw [← t7]
            simp
          have hne : tt.isEmpty = false := by
            cases tt with
            | nil => exact absurd rfl t5
            | cons _ _ => rfl
          clear T3 t7 t5
          unfold maxLen at hs
          have s3 : decide ((s.size : Int) - (aa : Int) < (tt.length : Int)) = false := by simp; omega
          have w1 : IntKind.i64.wrap ((s.size : Int) - (aa : Int)) = (s.size : Int) - (aa : Int) := IntWalk.i64_in _ (by omega)
          have w2 : IntKind.i64.wrap ((aa : Int) + (tt.length : Int)) = (aa : Int) + (tt.length : Int) := IntWalk.i64_in _ (by omega)
          have w3 : ((aa : Int) + (tt.length : Int)).toNat = aa + tt.length := by omega
          have w4 : (0 : Int) ≤ (aa : Int) + (tt.length : Int) := by omega
          have w5 : (aa : Int) + (tt.length : Int) ≤ (s.size : Int) := by omega
          have w6 : (aa : Int) ≤ (aa : Int) + (tt.length : Int) := by omega
          go_quiet (fail)
          go_wp2_with fail
          clear w1 w2 w3 w4 w5 w6
          refine ⟨⟨i + 1, by go_num, by omega, below_drewN hbw4.out _, below_drewN hbw5.out _⟩, by simp [intOf]; omega⟩
      · have hg1 : decide ((i : Int) + 1 < (n : Int)) = false := by simp; omega
        go_wp2_with fail
        refine (example_any _).mono ?_
        rintro e w4 ⟨rfl, hb4⟩
        go_wp2_with fail
        go_ret
        exact ⟨rfl, bthen hbw.out hb4⟩
end Go.Proofs.Ytalbmipncoohdaa
