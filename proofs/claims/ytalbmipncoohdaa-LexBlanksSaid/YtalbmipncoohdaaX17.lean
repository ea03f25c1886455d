/-
  Walks: literals of strings, in the program and in the reference.
-/
import Derived.Test.YtalbmipncoohdaaX16
namespace Go.Proofs.Ytalbmipncoohdaa
open Go.RowKit

theorem take_snoc (s : ByteArray) (k : Nat) (h : k < s.size) : s.data.toList.take (k + 1) = s.data.toList.take k ++ [s[k]] := by
  rw [List.take_succ_eq_append_getElem (by simpa using h)]; rfl
theorem extract_one (s : ByteArray) (k : Nat) (h : k < s.size) : s.extract k (k + 1) = ⟨#[s[k]]⟩ := by
  apply ByteArray.ext
  rw [ByteArray.data_extract]
  have h' : k < s.data.size := h
  apply Array.ext
  · simp; omega
  · intro i h1 h2
    have : i = 0 := by simp at h2; omega
    subst this
    simp; rfl
def badC (c : UInt8) : Bool := decide (c.toNat ≠ 10 ∧ (c.toNat < 32 ∨ 126 < c.toNat))
def escC (c : UInt8) : List UInt8 := if c.toNat = 10 then [92, 110] else if c.toNat = 34 ∨ c.toNat = 92 then [92, c] else [c]
def escL (l : List UInt8) : List UInt8 := l.flatMap escC
/-- The literal of a string, or the error. -/
def litP (l : List UInt8) : Except Nat (List UInt8) := if l.any badC then .error 4 else if 256 < l.length then .error 3 else .ok ([34] ++ escL l ++ [34])
def litRes : Except Nat (List UInt8) → Value
  | .error e => .tuple #[.string ⟨#[]⟩, .int .i64 e]
  | .ok l => .tuple #[.string ⟨l.toArray⟩, .int .i64 0]
theorem escL_snoc (l : List UInt8) (c : UInt8) : escL (l ++ [c]) = escL l ++ escC c := by simp [escL]
theorem escL_len (l : List UInt8) : (escL l).length ≤ 2 * l.length := by
  induction l with
  | nil => simp [escL]
  | cons c l ih =>
    have : (escC c).length ≤ 2 := by unfold escC; split <;> (try split) <;> simp
    simp [escL] at ih ⊢
    omega

set_option maxRecDepth 100000 in
set_option maxHeartbeats 4000000 in
theorem quote_any (s : ByteArray) (w : World) (hs : s.size ≤ 1048576) :
    Calls Try.prog 14 #[.string s] w fun e w' => e = .returned (litRes (litP s.data.toList)) ∧ Below w.heap.size w w' := by
  go_enter Try.func14, Try.ntmps14
  go_wp2_with fail
  have hr0 : BRow (w.alloc (.cells #[.int .u8 34] 5)) w.heap.size 5 (.slice (some ⟨w.heap.size, 0, none⟩) 1 1) [34] :=
    ⟨rfl, .inr ⟨_, 1, #[.int .u8 34], rfl, Nat.le_refl _, Blk.new w 5 #[.int .u8 34], Nat.le_refl _, by decide, rfl, rfl⟩⟩
  have hb0 : Below w.heap.size w (w.alloc (.cells #[.int .u8 34] 5)) := (Below.refl _ _).alloc (Nat.le_refl _) _
  have hs0 : w.heap.size ≤ (w.alloc (.cells #[.int .u8 34] 5)).heap.size := by simp
  obtain ⟨B, hB⟩ : ∃ B, B = w.heap.size := ⟨_, rfl⟩
  rw [← hB] at hr0 hb0 hs0 ⊢
  have HB := Lib.hid hB
  clear hB
  have hlen : s.data.toList.length = s.size := by simp
  have HL := Lib.hid hlen
  clear hlen
  go_loopw [4, 10] (fun v vi wr => ∃ (i : Nat), vi = .int .i64 i ∧ i ≤ s.size ∧ BRow wr B 5 v (34 :: escL (s.data.toList.take i)) ∧ Hid ((s.data.toList.take i).any badC = false) ∧ Below B w wr ∧ B ≤ wr.heap.size) (fun _ vi _ => s.size - (intOf vi).toNat)
  case atStart => exact ⟨0, rfl, Nat.zero_le _, hr0, rfl, hb0, hs0⟩
  case round =>
    clear hr0 hb0 hs0
    obtain ⟨i, rfl, hi, hown, hany, hbel, hszr⟩ := hrel
    obtain ⟨x4, c4, rfl⟩ := row_shape hown
    have hel := escL_len (s.data.toList.take i)
    have htl : (s.data.toList.take i).length = i := by rw [List.length_take, HL.out]; omega
    by_cases hlt : i < s.size
    · have hsn := take_snoc s i hlt
      have hb := (s[i]).toNat_lt
      obtain ⟨acc, hacc⟩ : ∃ acc, acc = escL (s.data.toList.take i) := ⟨_, rfl⟩
      rw [← hacc] at hel hown ⊢
      rw [htl] at hel
      have HA := Lib.hid hacc
      have HS := Lib.hid hsn
      have hcl : decide ((i : Int) < (s.size : Int)) = true := by simp; omega
      clear hacc hsn htl
      have hal : (34 :: acc).length = acc.length + 1 := rfl
      by_cases h10 : (s[i]).toNat = 10
      · have e10 : (((s[i]).toNat : Int) == 10) = true := by simp; omega
        go_wp2_with (at_builtin; refine wpList_app el_u8 hown hszr rfl rfl rfl (m := 1) rfl (by simp [Value.oneCell']) rfl (by simp; omega) (by unfold maxLen; simp; omega) ?_)
        intro r2 cap2 w2 ho2 hg2 _
        have hown2 := brow_more ho2 [92, 110] rfl rfl
        obtain ⟨hbel2, hsz2⟩ := below_app hbel hszr hown hg2
        clear ho2 hg2 hown
        go_wp2_with fail
        refine ⟨⟨i + 1, by go_num, by omega, ?_, ?_, hbel2, hsz2⟩, by simp [intOf]; omega⟩
        · rw [HS.out, escL_snoc, ← HA.out, escC, if_pos h10]; exact hown2
        · show _ = _
          rw [HS.out, List.any_append, hany.out]; simp [badC, h10]
      have e10 : (((s[i]).toNat : Int) == 10) = false := by simp; omega
      by_cases hbad : (s[i]).toNat < 32 ∨ 126 < (s[i]).toNat
      · have HN : Hid (litP s.data.toList = .error 4) := by
          show _ = _
          rw [litP, if_pos]
          rw [← List.take_append_drop (i + 1) s.data.toList, HS.out]
          simp [badC, h10, hbad]
        rcases hbad with hbad | hbad
        · have e32 : decide (((s[i]).toNat : Int) < 32) = true := by simp; omega
          go_wp2_with fail
          go_ret2
          exact ⟨by rw [HN.out]; rfl, by rw [← HB.out]; exact hbel⟩
        · have e32 : decide (((s[i]).toNat : Int) < 32) = false := by simp; omega
          have e126 : decide ((126 : Int) < ((s[i]).toNat : Int)) = true := by simp; omega
          go_wp2_with fail
          go_ret2
          exact ⟨by rw [HN.out]; rfl, by rw [← HB.out]; exact hbel⟩
      have e32 : decide (((s[i]).toNat : Int) < 32) = false := by simp; omega
      have e126 : decide ((126 : Int) < ((s[i]).toNat : Int)) = false := by simp; omega
      have hgood : badC s[i] = false := by simp [badC]; omega
      by_cases h34 : (s[i]).toNat = 34
      · have e34 : (((s[i]).toNat : Int) == 34) = true := by simp; omega
        go_wp2_with (at_builtin; refine wpList_app el_u8 hown hszr rfl rfl rfl (m := 1) rfl (by simp [Value.oneCell']) rfl (by simp; omega) (by unfold maxLen; simp; omega) ?_)
        intro r2 cap2 w2 ho2 hg2 _
        have hown2 := brow_more ho2 [92, s[i]] (by simp [bcells, h34]) rfl
        obtain ⟨hbel2, hsz2⟩ := below_app hbel hszr hown hg2
        clear ho2 hg2 hown
        go_wp2_with fail
        refine ⟨⟨i + 1, by go_num, by omega, ?_, ?_, hbel2, hsz2⟩, by simp [intOf]; omega⟩
        · rw [HS.out, escL_snoc, ← HA.out, escC, if_neg h10, if_pos (.inl h34)]; exact hown2
        · show _ = _
          rw [HS.out, List.any_append, hany.out]; simp [hgood]
      have e34 : (((s[i]).toNat : Int) == 34) = false := by simp; omega
      by_cases h92 : (s[i]).toNat = 92
      · have e92 : (((s[i]).toNat : Int) == 92) = true := by simp; omega
        go_wp2_with (at_builtin; refine wpList_app el_u8 hown hszr rfl rfl rfl (m := 1) rfl (by simp [Value.oneCell']) rfl (by simp; omega) (by unfold maxLen; simp; omega) ?_)
        intro r2 cap2 w2 ho2 hg2 _
        have hown2 := brow_more ho2 [92, s[i]] (by simp [bcells, h92]) rfl
        obtain ⟨hbel2, hsz2⟩ := below_app hbel hszr hown hg2
        clear ho2 hg2 hown
        go_wp2_with fail
        refine ⟨⟨i + 1, by go_num, by omega, ?_, ?_, hbel2, hsz2⟩, by simp [intOf]; omega⟩
        · rw [HS.out, escL_snoc, ← HA.out, escC, if_neg h10, if_pos (.inr h92)]; exact hown2
        · show _ = _
          rw [HS.out, List.any_append, hany.out]; simp [hgood]
      · have e92 : (((s[i]).toNat : Int) == 92) = false := by simp; omega
        go_wp2_with (at_builtin; refine wpList_app el_u8 hown hszr rfl rfl rfl (m := 0) rfl (by simp [Value.oneCell']) rfl (by simp; omega) (by unfold maxLen; simp; omega) ?_)
        intro r2 cap2 w2 ho2 hg2 _
        have hown2 := brow_more ho2 [s[i]] (by simp [bcells]) rfl
        obtain ⟨hbel2, hsz2⟩ := below_app hbel hszr hown hg2
        clear ho2 hg2 hown
        go_wp2_with fail
        refine ⟨⟨i + 1, by go_num, by omega, ?_, ?_, hbel2, hsz2⟩, by simp [intOf]; omega⟩
        · rw [HS.out, escL_snoc, ← HA.out, escC, if_neg h10, if_neg (by omega)]; exact hown2
        · show _ = _
          rw [HS.out, List.any_append, hany.out]; simp [hgood]
    · have hcl : decide ((i : Int) < (s.size : Int)) = false := by simp; omega
      have hall : s.data.toList.take i = s.data.toList := List.take_of_length_le (by rw [HL.out]; omega)
      rw [hall] at hel hown htl ⊢
      have ha2 : Hid (s.data.toList.any badC = false) := by rw [hall] at hany; exact hany
      have HW := Lib.hid hall
      clear hall hany htl
      by_cases hbig : 256 < s.size
      · have HN : Hid (litP s.data.toList = .error 3) := by
          show _ = _
          rw [litP, if_neg (by rw [ha2.out]; decide), if_pos (by rw [HL.out]; exact hbig)]
        go_wp2_with fail
        go_ret2
        exact ⟨by rw [HN.out]; rfl, by rw [← HB.out]; exact hbel⟩
      · have HN : Hid (litP s.data.toList = .ok ([34] ++ escL s.data.toList ++ [34])) := by
          show _ = _
          rw [litP, if_neg (by rw [ha2.out]; decide), if_neg (by rw [HL.out]; exact hbig)]
        obtain ⟨acc, hacc⟩ : ∃ acc, acc = escL s.data.toList := ⟨_, rfl⟩
        rw [← hacc] at hel hown HN ⊢
        rw [HL.out] at hel
        clear hacc HW ha2
        go_wp2_with (at_builtin; refine wpList_app el_u8 hown hszr rfl rfl rfl (m := 0) rfl (by simp [Value.oneCell']) rfl (by simp; omega) (by unfold maxLen; simp; omega) ?_)
        intro r2 cap2 w2 ho2 hg2 _
        have hown2 := brow_more ho2 [34] rfl rfl
        obtain ⟨hbel2, hsz2⟩ := below_app hbel hszr hown hg2
        have hcv := run_str_of Try.underlying36 Try.underlying5 Try.underlying9 hown2
        clear ho2 hg2 hown
        go_wp2_with fail
        go_ret2
        exact ⟨by rw [HN.out]; rfl, by rw [← HB.out]; exact hbel2⟩

set_option maxRecDepth 100000 in
set_option maxHeartbeats 4000000 in
theorem rquote_any (s : ByteArray) (w : World) (hs : s.size ≤ 1048576) :
    Calls Try.prog 15 #[.string s] w fun e w' => e = .returned (litRes (litP s.data.toList)) ∧ w = w' := by
  have hlen : s.data.toList.length = s.size := by simp
  have HL := Lib.hid hlen
  clear hlen
  go_enter Try.func15, Try.ntmps15
  go_wp2_with fail
  go_loop [4] (fun vi => ∃ (i : Nat), vi = .int .i64 i ∧ i ≤ s.size ∧ Hid ((s.data.toList.take i).any badC = false)) (fun vi => s.size - (intOf vi).toNat)
  case atStart => exact ⟨0, rfl, Nat.zero_le _, rfl⟩
  case round =>
    obtain ⟨i, rfl, hi, hany⟩ := hrel
    by_cases hlt : i < s.size
    · have hcl : decide ((i : Int) < (s.size : Int)) = true := by simp; omega
      have HS := Lib.hid (take_snoc s i hlt)
      by_cases hb : badC s[i] = true
      · have HN : Hid (litP s.data.toList = .error 4) := by
          show _ = _
          rw [litP, if_pos]
          rw [← List.take_append_drop (i + 1) s.data.toList, HS.out]
          simp [hb]
        have hbc : (s[i]).toNat ≠ 10 ∧ ((s[i]).toNat < 32 ∨ 126 < (s[i]).toNat) := by simpa [badC] using hb
        have e10 : (((s[i]).toNat : Int) != 10) = true := by simp; omega
        by_cases h32 : (s[i]).toNat < 32
        · have e32 : decide (((s[i]).toNat : Int) < 32) = true := by simp; omega
          go_wp2_with fail
          go_ret2
          exact ⟨by rw [HN.out]; rfl, rfl⟩
        · have e32 : decide (((s[i]).toNat : Int) < 32) = false := by simp; omega
          have e126 : decide ((126 : Int) < ((s[i]).toNat : Int)) = true := by simp; omega
          go_wp2_with fail
          go_ret2
          exact ⟨by rw [HN.out]; rfl, rfl⟩
      · have hbf : badC s[i] = false := by simpa using hb
        have hbc : (s[i]).toNat = 10 ∨ (32 ≤ (s[i]).toNat ∧ (s[i]).toNat ≤ 126) := by
          have : ¬ ((s[i]).toNat ≠ 10 ∧ ((s[i]).toNat < 32 ∨ 126 < (s[i]).toNat)) := by simpa [badC] using hb
          omega
        by_cases h10 : (s[i]).toNat = 10
        · have e10 : (((s[i]).toNat : Int) != 10) = false := by simp; omega
          go_wp2_with fail
          go_round
          case rel => exact ⟨i + 1, by go_num, by omega, by show _ = _; rw [HS.out, List.any_append, hany.out]; simp [hbf]⟩
          case measure => simp [intOf]; omega
        · have e10 : (((s[i]).toNat : Int) != 10) = true := by simp; omega
          have e32 : decide (((s[i]).toNat : Int) < 32) = false := by simp; omega
          have e126 : decide ((126 : Int) < ((s[i]).toNat : Int)) = false := by simp; omega
          go_wp2_with fail
          go_round
          case rel => exact ⟨i + 1, by go_num, by omega, by show _ = _; rw [HS.out, List.any_append, hany.out]; simp [hbf]⟩
          case measure => simp [intOf]; omega
    · have hcl : decide ((i : Int) < (s.size : Int)) = false := by simp; omega
      have ha2 : Hid (s.data.toList.any badC = false) := by have := hany.out; rwa [List.take_of_length_le (by rw [HL.out]; omega)] at this
      clear hany
      by_cases hbig : 256 < s.size
      · have HN : Hid (litP s.data.toList = .error 3) := by
          show _ = _
          rw [litP, if_neg (by rw [ha2.out]; decide), if_pos (by rw [HL.out]; exact hbig)]
        go_wp2_with fail
        go_ret2
        exact ⟨by rw [HN.out]; rfl, rfl⟩
      · have HN : Hid (litP s.data.toList = .ok ([34] ++ escL s.data.toList ++ [34])) := by
          show _ = _
          rw [litP, if_neg (by rw [ha2.out]; decide), if_neg (by rw [HL.out]; exact hbig)]
        go_wp2_with fail
        go_loop [5, 6] (fun v vk => ∃ (k : Nat), vk = .int .i64 k ∧ k ≤ s.size ∧ v = .string ⟨(34 :: escL (s.data.toList.take k)).toArray⟩) (fun _ vk => s.size - (intOf vk).toNat)
        case atStart => exact ⟨0, rfl, Nat.zero_le _, rfl⟩
        case round =>
          obtain ⟨k, rfl, hk, rfl⟩ := hrel
          have hel := escL_len (s.data.toList.take k)
          have htl : (s.data.toList.take k).length = k := by rw [List.length_take, HL.out]; omega
          rw [htl] at hel
          clear htl
          by_cases hlt : k < s.size
          · have hcl : decide ((k : Int) < (s.size : Int)) = true := by simp; omega
            have HS := Lib.hid (take_snoc s k hlt)
            have hx := extract_one s k hlt
            obtain ⟨acc, hacc⟩ : ∃ acc, acc = escL (s.data.toList.take k) := ⟨_, rfl⟩
            rw [← hacc] at hel ⊢
            have HA := Lib.hid hacc
            clear hacc
            by_cases h10 : (s[k]).toNat = 10
            · have e10 : (((s[k]).toNat : Int) == 10) = true := by simp; omega
              go_wp2_with fail
              go_round
              case rel => exact ⟨k + 1, by go_num, by omega, by rw [HS.out, escL_snoc, ← HA.out, escC, if_pos h10]; exact congrArg Value.string (ByteArray.ext (by simp))⟩
              case measure => simp [intOf]; omega
            have e10 : (((s[k]).toNat : Int) == 10) = false := by simp; omega
            by_cases h92 : (s[k]).toNat = 92
            · have e92 : (((s[k]).toNat : Int) == 92) = true := by simp; omega
              go_wp2_with fail
              go_round
              case rel => exact ⟨k + 1, by go_num, by omega, by rw [HS.out, escL_snoc, ← HA.out, escC, if_neg h10, if_pos (.inr h92)]; exact congrArg Value.string (ByteArray.ext (by simp))⟩
              case measure => simp [intOf]; omega
            have e92 : (((s[k]).toNat : Int) == 92) = false := by simp; omega
            by_cases h34 : (s[k]).toNat = 34
            · have e34 : (((s[k]).toNat : Int) == 34) = true := by simp; omega
              go_wp2_with fail
              go_round
              case rel => exact ⟨k + 1, by go_num, by omega, by rw [HS.out, escL_snoc, ← HA.out, escC, if_neg h10, if_pos (.inl h34)]; exact congrArg Value.string (ByteArray.ext (by simp))⟩
              case measure => simp [intOf]; omega
            · have e34 : (((s[k]).toNat : Int) == 34) = false := by simp; omega
              go_wp2_with fail
              go_round
              case rel => exact ⟨k + 1, by go_num, by omega, by rw [HS.out, escL_snoc, ← HA.out, escC, if_neg h10, if_neg (by omega)]; exact congrArg Value.string (ByteArray.ext (by simp))⟩
              case measure => simp [intOf]; omega
          · have hcl : decide ((k : Int) < (s.size : Int)) = false := by simp; omega
            have hall : s.data.toList.take k = s.data.toList := List.take_of_length_le (by rw [HL.out]; omega)
            rw [hall] at hel ⊢
            clear hall
            generalize escL s.data.toList = acc at *
            go_wp2_with fail
            go_ret2
            exact ⟨by rw [HN.out]; simp [litRes]; exact ByteArray.ext (by simp), rfl⟩

theorem quoR_esc (l r : List UInt8) (h : l.any badC = false) : quoR (escL l ++ 34 :: r) = some (l, (escL l).length + 1) := by
  induction l with
  | nil => exact quoR_end rfl
  | cons c l ih =>
    simp only [List.any_cons, Bool.or_eq_false_iff] at h
    have ih := ih h.2
    have hb : c.toNat = 10 ∨ (32 ≤ c.toNat ∧ c.toNat ≤ 126) := by
      have : ¬ (c.toNat ≠ 10 ∧ (c.toNat < 32 ∨ 126 < c.toNat)) := by simpa [badC] using h.1
      omega
    have e : escL (c :: l) = escC c ++ escL l := rfl
    rw [e, escC]
    by_cases h10 : c.toNat = 10
    · rw [if_pos h10]
      show quoR (92 :: 110 :: (escL l ++ 34 :: r)) = _
      rw [quoR_line rfl rfl, ih]
      have : c = 10 := UInt8.toNat_inj.1 h10
      simp [this]
    · rw [if_neg h10]
      by_cases h34 : c.toNat = 34 ∨ c.toNat = 92
      · rw [if_pos h34]
        show quoR (92 :: c :: (escL l ++ 34 :: r)) = _
        rw [quoR_same rfl h34.symm, ih]
        simp
      · rw [if_neg h34]
        show quoR (c :: (escL l ++ 34 :: r)) = _
        rw [quoR_plain (by omega) (by omega) (by omega) (by omega), ih]
        simp
theorem toksP_lit (l : List UInt8) (h : l.any badC = false) (hl : l.length ≤ 256) : toksP ([34] ++ escL l ++ [34]) = .ok [⟨2, l, 0⟩, ⟨0, [], ([34] ++ escL l ++ [34]).length⟩] := by
  have he := escL_len l
  have hq := quoR_esc l [] h
  have e : [34] ++ escL l ++ [34] = 34 :: (escL l ++ [34]) := rfl
  rw [e]
  generalize hu : (escL l ++ [34]) = u at *
  have hul : u.length = (escL l).length + 1 := by rw [← hu]; simp
  have htok : tokP (34 :: u) 0 = .ok (⟨2, l, 0⟩, (34 :: u : List UInt8).length) := by
    unfold tokP
    simp only [List.drop_zero]
    rw [if_neg (by decide), if_neg (by decide), if_pos (by decide), quoT, hq]
    simp only
    rw [if_neg (by omega)]
    simp [hul]; omega
  rw [toksP, if_neg (by simp; omega)]
  have hsk : skipN false (34 :: u) = 0 := rfl
  rw [hsk, toksGo_step _ _ _ _ _ _ (by decide) (by simp) htok, List.drop_length]
  show cont _ (toksGo (34 :: u) ((34 :: u : List UInt8).length) 1 ((34 :: u : List UInt8).length + 0)) = _
  rw [Nat.add_zero]
  show cont _ (toksGo (34 :: u) (u.length + 1) 1 ((34 :: u : List UInt8).length)) = _
  rw [toksGo_end _ _ _ (by decide)]
  rfl

set_option maxRecDepth 100000 in
set_option maxHeartbeats 2000000 in
theorem lawQuotes (s : ByteArray) (w : World) (hs : s.size ≤ 1048576) :
    Calls Try.prog 5 #[.string s] w fun e w' => e = .returned (.bool true) ∧ Below w.heap.size w w' := by
  go_enter Try.func5, Try.ntmps5
  go_wp2_with fail
  refine (quote_any s _ hs).mono ?_
  rintro e w1 ⟨rfl, hb1⟩
  obtain ⟨x, k, hxk⟩ : ∃ (x : List UInt8) (k : Nat), litRes (litP s.data.toList) = .tuple #[.string ⟨x.toArray⟩, .int .i64 k] := by
    cases litP s.data.toList with
    | error e => exact ⟨[], e, rfl⟩
    | ok l => exact ⟨l, 0, rfl⟩
  have HX := Lib.hid hxk
  rw [hxk]
  clear hxk
  go_wp2_with fail
  refine (rquote_any s _ hs).mono ?_
  rintro e w2 ⟨rfl, rfl⟩
  rw [HX.out]
  go_wp2_with fail
  refine (example_any _).mono ?_
  rintro e w4 ⟨rfl, hb4⟩
  go_wp2_with fail
  go_ret
  exact ⟨rfl, bthen hb1 hb4⟩

set_option maxRecDepth 100000 in
set_option maxHeartbeats 2000000 in
theorem lawReturns (s : ByteArray) (w : World) (hs : s.size ≤ 1048576) :
    Calls Try.prog 6 #[.string s] w fun e w' => e = .returned (.bool true) ∧ Below w.heap.size w w' := by
  go_enter Try.func6, Try.ntmps6
  go_wp2_with fail
  refine (quote_any s _ hs).mono ?_
  rintro e w1 ⟨rfl, hb1⟩
  by_cases hbad : s.data.toList.any badC = true
  · rw [litP, if_pos hbad]
    clear hbad
    simp only [litRes]
    go_wp2_with fail
    refine (example_any _).mono ?_
    rintro e w4 ⟨rfl, hb4⟩
    go_wp2_with fail
    go_ret
    exact ⟨rfl, bthen hb1 hb4⟩
  by_cases hbig : 256 < s.data.toList.length
  · rw [litP, if_neg hbad, if_pos hbig]
    clear hbad hbig
    simp only [litRes]
    go_wp2_with fail
    refine (example_any _).mono ?_
    rintro e w4 ⟨rfl, hb4⟩
    go_wp2_with fail
    go_ret
    exact ⟨rfl, bthen hb1 hb4⟩
  have htk := toksP_lit s.data.toList (by simpa using hbad) (by omega)
  have hel := escL_len s.data.toList
  rw [litP, if_neg hbad, if_neg hbig]
  clear hbad
  simp only [litRes]
  have hql : ([34] ++ escL s.data.toList ++ [34]).length ≤ 600 := by simp; omega
  clear hel
  obtain ⟨q, hq⟩ : ∃ q, q = [34] ++ escL s.data.toList ++ [34] := ⟨_, rfl⟩
  rw [← hq] at htk hql ⊢
  clear hq
  have HT := Lib.hid htk
  clear htk hbig
  go_wp2_with fail
  refine (tokens_any _ _ ?_).mono ?_
  · show q.length ≤ _
    unfold maxLen; omega
  rintro e w2 ⟨hok, hb2⟩
  have e1 : (ByteArray.mk q.toArray).data.toList = q := rfl
  rw [e1, HT.out] at hok
  obtain ⟨v, rfl, hrow⟩ := hok
  go_wp2_with fail
  have hrow2 : TRow (w2.alloc (.cells #[.int .i64 2, .string s, .int .i64 0, .int .i64 0, .string ⟨#[]⟩, .int .i64 (q.length : Int)] 30)) w2.heap.size (.slice (some ⟨w2.heap.size, 0, none⟩) 2 2) [⟨2, s.data.toList, 0⟩, ⟨0, [], q.length⟩] :=
    ⟨rfl, .inr ⟨w2.heap.size, 2, _, rfl, Nat.le_refl _, heap_alloc_new w2 _, Nat.le_refl _, by decide, rfl, rfl⟩⟩
  refine (same_any _ _ [⟨2, s.data.toList, 0⟩, ⟨0, [], q.length⟩] _ _ _ (World.ownsRow.alloc hrow _) hrow2 (by show 2 ≤ 1000000; decide)).mono ?_
  rintro e w3 ⟨rfl, n, rfl⟩
  have hb3 := below_drewN ((bthen hb1 hb2).alloc (bthen hb1 hb2).size (.cells #[.int .i64 2, .string s, .int .i64 0, .int .i64 0, .string ⟨#[]⟩, .int .i64 (q.length : Int)] 30)) n
  generalize (w2.alloc (.cells #[.int .i64 2, .string s, .int .i64 0, .int .i64 0, .string ⟨#[]⟩, .int .i64 (q.length : Int)] 30)).drewN n = w3 at *
  go_wp2_with fail
  refine (example_any _).mono ?_
  rintro e w4 ⟨rfl, hb4⟩
  go_wp2_with fail
  go_ret
  exact ⟨rfl, bthen hb3 hb4⟩
end Go.Proofs.Ytalbmipncoohdaa
