/-
  Walks: the lines of a header of P7, in the program.
-/
import Derived.Test.YtakkdgcmeeilbaaDoorPs
namespace Go.Proofs.YtakkdgcmeeilbaaDoor
open Go.RowKit

/-- What a header's reader answers. -/
def HdOk (r : Option (Nat × Nat × Nat × Nat × List Mt × List UInt8)) (e : Ending) (w : World) : Prop :=
  match r with
  | none => e = .returned hd0V
  | some (a, b, c, d, ms, r) => ∃ v, e = .returned (.tuple #[.agg (hdrC a b c d v), .string ⟨r.toArray⟩, .bool true]) ∧ MRow w v ms
def valC (vs : List (Option Nat)) : Array Value := (vs.map fun o => Value.int .i64 (o.getD 0 : Nat)).toArray
def fouC (vs : List (Option Nat)) : Array Value := (vs.map fun o => Value.bool o.isSome).toArray
theorem valC_set (vs : List (Option Nat)) (k n : Nat) : (valC vs).setIfInBounds k (.int .i64 n) = valC (vs.set k (some n)) := by
  unfold valC; rw [List.map_set]; simp
theorem fouC_set (vs : List (Option Nat)) (k n : Nat) : (fouC vs).setIfInBounds k (.bool true) = fouC (vs.set k (some n)) := by
  unfold fouC; rw [List.map_set]; simp
theorem fouC_get (vs : List (Option Nat)) (k : Nat) (h : k < vs.length) : (fouC vs)[k]? = some (.bool (vs.getD k none).isSome) := by
  unfold fouC; simp [h]
theorem valC_get (vs : List (Option Nat)) (k : Nat) (h : k < vs.length) : (valC vs)[k]? = some (.int .i64 ((vs.getD k none).getD 0 : Nat)) := by
  unfold valC; simp [h]
theorem wIx_cases (u : List UInt8) : wIx u = -1 ∨ ∃ k : Nat, wIx u = (k : Int) ∧ k < 4 := by
  unfold wIx
  split
  · exact .inr ⟨0, rfl, by decide⟩
  · split
    · exact .inr ⟨1, rfl, by decide⟩
    · split
      · exact .inr ⟨2, rfl, by decide⟩
      · split
        · exact .inr ⟨3, rfl, by decide⟩
        · exact .inl rfl
theorem eq4 (a b c d : Bool) (w : World) : (Op.equalIn 10000 68 (.agg #[.bool a, .bool b, .bool c, .bool d]) (.agg #[.bool true, .bool true, .bool true, .bool true])).run Tryd.prog w = .ok (a && b && c && d) w := by
  have u3 := Tryd.underlying4
  have a3 := Tryd.isAgg4
  have z3 := Tryd.sizeOf4
  rw [show (10000 : Nat) = 9999 + 1 from rfl, Op.equalIn]
  simp only [Sem.run_bind, run_underlying Tryd.underlying68, Result.andThen_ok]
  simp only [Std.Legacy.Range.forIn_eq_forIn_range', Std.Legacy.Range.size, Nat.sub_zero, Nat.add_sub_cancel, Nat.div_one, List.range'_succ, List.range'_zero, List.forIn_cons, List.forIn_nil]
  go_simp
  cases a <;> cases b <;> cases c <;> cases d <;> simp
theorem mown_put {w : World} {B k : Nat} {v : Value} {ms : List Mt} {t : TypeId} {cs : Array Value} (h : MOwn w B v ms) (hb : Blk w k t cs) (ht : t ≠ 44) (i : Nat) (u : Value) : MOwn (w.setCell ⟨k, i, none⟩ u) B v ms :=
  ((Fr.refl k [t] w).put hb (Nat.le_refl _) (by simp) i u).owns h (by simpa using fun e => ht e.symm)
/-- The cells of readLines: the header, the values, what was found, the metadata. -/
structure RL (w wr : World) (B : Nat) (v : Value) (vs : List (Option Nat)) (ms : List Mt) : Prop where
  hd : Blk wr B 49 (hdrC 0 0 0 0 v)
  va : Blk wr (B + 1) 59 (valC vs)
  fo : Blk wr (B + 1 + 1) 68 (fouC vs)
  me : MOwn wr B v ms
  di : DistK ms
  le : ms.length ≤ 16
  l4 : vs.length = 4
  be : Below B w wr
  sz : B + 1 + 1 < wr.heap.size
theorem RL.drewN {w wr : World} {B : Nat} {v : Value} {vs : List (Option Nat)} {ms : List Mt} (h : RL w wr B v vs ms) (n : Nat) : RL w (wr.drewN n) B v vs ms :=
  ⟨h.hd.drewN n, h.va.drewN n, h.fo.drewN n, h.me, h.di, h.le, h.l4, below_drewN h.be n, h.sz⟩

set_option maxHeartbeats 4000000 in
set_option maxRecDepth 100000 in
theorem readLines_any (t : ByteArray) (w : World) (ht : t.size ≤ maxLen) : Calls Tryd.prog 36 #[.string t] w fun e w' => HdOk (sevP t.data.toList) e w' ∧ Below w.heap.size w w' := by
  obtain ⟨R, hR⟩ : ∃ R, R = linesP t.data.toList [none, none, none, none] [] := ⟨_, rfl⟩
  have HP : Hid (sevP t.data.toList = sevF R) := by show _ = _; rw [hR]; rfl
  have HR := Lib.hid hR
  clear hR
  go_enter Tryd.func36, Tryd.ntmps36
  go_wp2_with fail
  go_loopw [0] (fun v0 wr => ∃ (s : ByteArray) (v : Value) (vs : List (Option Nat)) (ms : List Mt), v0 = .string s ∧ Hid (s.size ≤ maxLen) ∧ Hid (R = linesP s.data.toList vs ms) ∧ Hid (RL w wr w.heap.size v vs ms)) (fun v0 _ => strLen v0)
  case atStart =>
    refine ⟨t, .slice none 0 0, [none, none, none, none], [], rfl, ht, HR, ?_⟩
    refine ⟨((Blk.new w _ _).alloc _).alloc _, (Blk.new_at (by simp) _ _).alloc _, Blk.new_at (by simp) _ _, World.ownsRow_nil _ _ _ _, List.Pairwise.nil, by decide, rfl, ?_, by simp⟩
    exact (((Below.refl w.heap.size w).alloc (Nat.le_refl _) _).alloc (by simp) _).alloc (by simp; omega) _
  case round =>
    clear HR ht
    obtain ⟨s, v, vs, ms, rfl, hs, hch, hrl⟩ := hrel
    generalize hB : w.heap.size = B at *
    have HB := Lib.hid hB
    clear hB
    have HCUT := Lib.hid (fun w => cutS_any s 10 w hs.out)
    unfold cutV at HCUT
    have HLE : Hid ((s.data.toList.take (fnd 10 s.data.toList)).length ≤ maxLen ∧ (s.data.toList.drop (fnd 10 s.data.toList + 1)).length ≤ maxLen ∧ (fnd 10 s.data.toList < s.data.toList.length → (s.data.toList.drop (fnd 10 s.data.toList + 1)).length < s.size)) := by
      have := hs.out
      show _ ∧ _ ∧ _
      rw [List.length_take, List.length_drop, ba_size]; omega
    have HZ := Lib.hid (fun h => linesP_none (u := s.data.toList) (vs := vs) (ms := ms) h)
    have HEN := Lib.hid (fun h h2 => linesP_end (u := s.data.toList) (vs := vs) (ms := ms) h h2)
    have HBD := Lib.hid (fun h h2 h3 => linesP_bad (u := s.data.toList) (vs := vs) (ms := ms) h h2 h3)
    have HST := Lib.hid (fun vs' ms' h h2 h3 => linesP_step (u := s.data.toList) (vs := vs) (ms := ms) (vs' := vs') (ms' := ms') h h2 h3)
    generalize s.data.toList.take (fnd 10 s.data.toList) = line at *
    generalize s.data.toList.drop (fnd 10 s.data.toList + 1) = rest at *
    obtain ⟨b2, hb2⟩ : ∃ b, decide (fnd 10 s.data.toList < s.data.toList.length) = b := ⟨_, rfl⟩
    rw [hb2] at HCUT
    go_wp2_with fail
    refine (HCUT.out _).mono ?_
    rintro e w2 ⟨rfl, n, rfl⟩
    have hrl2 := Lib.hid (hrl.out.drewN n)
    clear hrl
    generalize wr.drewN n = w2 at *
    cases b2 with
    | false =>
      have HF : Hid (sevF R = none) := by show _ = _; rw [hch.out, HZ.out (by simpa using hb2)]; rfl
      clear hb2
      go_wp2_with (refine wpList_store_rowTo rfl 49 (.tmp 2) (.tmp 25) rfl rfl B hdr0 (by rfl) (by rfl) 49 (hdrC 0 0 0 0 v) (by exact hrl2.out.hd) hdr0_inf rfl hdr0_one ?_)
      refine bodyPost_ret (v := hd0V) (results_ctt rfl _ _ B 49 hdr0 (0, 0) _ _ _ rfl rfl rfl (hrl2.out.hd.rset hdr0) Tryd.underlying49 rfl hdr0_inf) rfl ⟨?_, by rw [HB.out]; exact below_rset hrl2.out.be (Nat.le_refl _) _⟩
      rw [HP.out, HF.out]; rfl
    | true =>
      have hfl : fnd 10 s.data.toList < s.data.toList.length := by simpa using hb2
      have HFL := Lib.hid hfl
      clear hfl hb2
      obtain ⟨T, hT⟩ : ∃ T : ByteArray, T = ⟨line.toArray⟩ := ⟨_, rfl⟩
      have HTL : Hid (T.data.toList = line) := by show _ = _; rw [hT]
      have HTS : Hid (T.size = line.length) := by show _ = _; rw [hT, ba_len]
      have HTM : Hid (T.size ≤ maxLen) := by show _ ≤ _; rw [HTS.out]; exact HLE.out.1
      rw [← hT]
      clear hT HCUT
      by_cases hen : line = ENDH
      · have HF : Hid (R = some (vs, ms, rest)) := by show _ = _; rw [hch.out, HEN.out HFL.out hen]
        have q1 : (T.toList == [69, 78, 68, 72, 68, 82]) = true := by rw [ByteArray.toList_eq, HTL.out, hen]; rfl
        clear HZ HEN HBD HST HLE hen
        obtain ⟨o0, o1, o2, o3, rfl⟩ : ∃ o0 o1 o2 o3, vs = [o0, o1, o2, o3] := by
          have h4 := hrl2.out.l4
          match vs, h4 with
          | [a, b, c, d], _ => exact ⟨a, b, c, d, rfl⟩
        have f0 : w2.cell? ⟨B + 1 + 1, 0, none⟩ = some (.bool o0.isSome) := hrl2.out.fo.cell 0
        have f1 : w2.cell? ⟨B + 1 + 1, 1, none⟩ = some (.bool o1.isSome) := hrl2.out.fo.cell 1
        have f2 : w2.cell? ⟨B + 1 + 1, 2, none⟩ = some (.bool o2.isSome) := hrl2.out.fo.cell 2
        have f3 : w2.cell? ⟨B + 1 + 1, 3, none⟩ = some (.bool o3.isSome) := hrl2.out.fo.cell 3
        by_cases hall : o0.isSome = true ∧ o1.isSome = true ∧ o2.isSome = true ∧ o3.isSome = true
        · obtain ⟨a0, a1, a2, a3⟩ := hall
          rw [a0] at f0
          rw [a1] at f1
          rw [a2] at f2
          rw [a3] at f3
          have e4 : ∀ w, (Op.equalIn 10000 68 (.agg #[.bool true, .bool true, .bool true, .bool true]) (.agg #[.bool true, .bool true, .bool true, .bool true])).run Tryd.prog w = .ok true w := fun w => eq4 true true true true w
          obtain ⟨n0, rfl⟩ := Option.isSome_iff_exists.1 a0
          obtain ⟨n1, rfl⟩ := Option.isSome_iff_exists.1 a1
          obtain ⟨n2, rfl⟩ := Option.isSome_iff_exists.1 a2
          obtain ⟨n3, rfl⟩ := Option.isSome_iff_exists.1 a3
          clear a0 a1 a2 a3
          have y0 : w2.cell? ⟨B + 1, 0, none⟩ = some (.int .i64 n0) := hrl2.out.va.cell 0
          have y1 : w2.cell? ⟨B + 1, 1, none⟩ = some (.int .i64 n1) := hrl2.out.va.cell 1
          have y2 : w2.cell? ⟨B + 1, 2, none⟩ = some (.int .i64 n2) := hrl2.out.va.cell 2
          have y3 : w2.cell? ⟨B + 1, 3, none⟩ = some (.int .i64 n3) := hrl2.out.va.cell 3
          have x0 : w2.cell? ⟨B, 0, none⟩ = some (.int .i64 0) := hrl2.out.hd.cell 0
          have x1 : w2.cell? ⟨B, 1, none⟩ = some (.int .i64 0) := hrl2.out.hd.cell 1
          have x2 : w2.cell? ⟨B, 2, none⟩ = some (.int .i64 0) := hrl2.out.hd.cell 2
          have x3 : w2.cell? ⟨B, 3, none⟩ = some (.int .i64 0) := hrl2.out.hd.cell 3
          have z0 := hrl2.out.hd.frozen 0
          have z1 := hrl2.out.hd.frozen 1
          have z2 := hrl2.out.hd.frozen 2
          have z3 := hrl2.out.hd.frozen 3
          go_wp2_with fail
          clear e4 f0 f1 f2 f3
          go_region
          have hz : Blk ((((w2.setCell ⟨B, 0, none⟩ (.int .i64 n0)).setCell ⟨B, 1, none⟩ (.int .i64 n1)).setCell ⟨B, 2, none⟩ (.int .i64 n2)).setCell ⟨B, 3, none⟩ (.int .i64 n3)).drew B 49 (hdrC n0 n1 n2 n3 v) :=
            ((((hrl2.out.hd.put 0 _).put 1 _).put 2 _).put 3 _).drew
          have hbz := (below_put (below_put (below_put (below_put hrl2.out.be (p := ⟨B, 0, none⟩) (Nat.le_refl _) (.int .i64 n0)) (p := ⟨B, 1, none⟩) (Nat.le_refl _) (.int .i64 n1)) (p := ⟨B, 2, none⟩) (Nat.le_refl _) (.int .i64 n2)) (p := ⟨B, 3, none⟩) (Nat.le_refl _) (.int .i64 n3)).drew
          have hmz : MOwn ((((w2.setCell ⟨B, 0, none⟩ (.int .i64 n0)).setCell ⟨B, 1, none⟩ (.int .i64 n1)).setCell ⟨B, 2, none⟩ (.int .i64 n2)).setCell ⟨B, 3, none⟩ (.int .i64 n3)).drew B v ms :=
            mown_put (mown_put (mown_put (mown_put hrl2.out.me hrl2.out.hd (by decide) 0 _) (hrl2.out.hd.put 0 _) (by decide) 1 _) ((hrl2.out.hd.put 0 _).put 1 _) (by decide) 2 _) (((hrl2.out.hd.put 0 _).put 1 _).put 2 _) (by decide) 3 _
          have hsz : B + 1 + 1 < ((((w2.setCell ⟨B, 0, none⟩ (.int .i64 n0)).setCell ⟨B, 1, none⟩ (.int .i64 n1)).setCell ⟨B, 2, none⟩ (.int .i64 n2)).setCell ⟨B, 3, none⟩ (.int .i64 n3)).drew.heap.size := by
            have := hrl2.out.sz
            simpa [World.drew, World.setCell] using this
          clear x0 x1 x2 x3 z0 z1 z2 z3 y0 y1 y2 y3
          generalize ((((w2.setCell ⟨B, 0, none⟩ (.int .i64 n0)).setCell ⟨B, 1, none⟩ (.int .i64 n1)).setCell ⟨B, 2, none⟩ (.int .i64 n2)).setCell ⟨B, 3, none⟩ (.int .i64 n3)).drew = wy at *
          have x4 : wy.cell? ⟨B, 4, none⟩ = some v := hz.cell 4
          have HZ := Lib.hid hz
          have HBZ := Lib.hid hbz
          have HMZ := Lib.hid hmz
          have HSO := Lib.hid (sortFunc_any v ms B wy hmz hrl2.out.di hrl2.out.le)
          have HSZ := Lib.hid hsz
          clear hz hbz hmz hsz
          go_wp2_with fail
          refine HSO.out.mono ?_
          rintro e w3 ⟨rfl, hm3, hf3⟩
          have HB3 : Hid (Blk w3 B 49 (hdrC n0 n1 n2 n3 v)) := hf3.blk HZ.out (by decide)
          have HBE3 : Hid (Below B w w3) := HBZ.out.trans (hf3.below (by have := HSZ.out; omega))
          have HM3 := Lib.hid hm3
          have HV1 : Hid (v.oneCell' = true) := by obtain ⟨x, c, rfl, -⟩ := hm3; exact rfl
          clear x4 hm3 hf3
          go_wp2_with (first | refine wpList_load_row rfl 49 (.tmp 2) rfl B (by rfl) 49 (hdrC n0 n1 n2 n3 v) (0, 0) _ (by exact HB3.out) Tryd.underlying49 rfl (hdrC_inf _ _ _ _ _) ?_ | refine wpList_rset_same rfl 49 (.tmp 2) (.tmp 97) rfl rfl B (hdrC n0 n1 n2 n3 v) (by rfl) (by rfl) 49 (by exact HB3.out) (hdrC_inf _ _ _ _ _) (by exact hdrC_one _ _ _ _ _ HV1.out) ?_)
          refine bodyPost_ret (v := .tuple #[.agg (hdrC n0 n1 n2 n3 v), .string ⟨rest.toArray⟩, .bool true]) (results_ctt rfl _ _ B 49 (hdrC n0 n1 n2 n3 v) (0, 0) _ _ _ rfl rfl rfl HB3.out Tryd.underlying49 rfl (hdrC_inf _ _ _ _ _)) rfl ⟨?_, by rw [HB.out]; exact HBE3.out⟩
          rw [HP.out, HF.out]
          exact ⟨v, rfl, HM3.out⟩
        · have e4 := fun w => eq4 o0.isSome o1.isSome o2.isSome o3.isSome w
          have ef : (o0.isSome && o1.isSome && o2.isSome && o3.isSome) = false := by
            rw [Bool.eq_false_iff]; intro h; simp only [Bool.and_eq_true] at h; exact hall ⟨h.1.1.1, h.1.1.2, h.1.2, h.2⟩
          rw [ef] at e4
          have HF2 : Hid (sevF R = none) := by
            show _ = _
            rw [HF.out]
            cases o0 <;> cases o1 <;> cases o2 <;> cases o3 <;> first | rfl | (exact absurd ⟨rfl, rfl, rfl, rfl⟩ hall)
          clear ef hall
          go_wp2_with (refine wpList_store_rowTo rfl 49 (.tmp 2) (.tmp 81) rfl rfl B hdr0 (by rfl) (by rfl) 49 (hdrC 0 0 0 0 v) (by exact hrl2.out.hd) hdr0_inf rfl hdr0_one ?_)
          refine bodyPost_ret (v := hd0V) (results_ctt rfl _ _ B 49 hdr0 (0, 0) _ _ _ rfl rfl rfl (hrl2.out.hd.rset hdr0) Tryd.underlying49 rfl hdr0_inf) rfl ⟨?_, by rw [HB.out]; exact below_rset hrl2.out.be (Nat.le_refl _) _⟩
          rw [HP.out, HF2.out]; rfl
      have q1 : (T.toList == [69, 78, 68, 72, 68, 82]) = false := by
        rw [ByteArray.toList_eq, HTL.out]; simpa [ENDH] using hen
      have HHEN := Lib.hid hen
      have HST2 : Hid (∀ vs' ms', lineP line vs ms = some (vs', ms') → R = linesP rest vs' ms') := fun vs' ms' h => by rw [hch.out, HST.out vs' ms' HFL.out hen h]
      have HBD2 : Hid (lineP line vs ms = none → sevF R = none) := fun h => by rw [hch.out, HBD.out HFL.out hen h]; rfl
      have HME : Hid (∀ vs' ms' v' wx, R = linesP rest vs' ms' → RL w wx B v' vs' ms' → ∃ (s' : ByteArray) (v'' : Value) (vs'' : List (Option Nat)) (ms'' : List Mt), Value.string ⟨rest.toArray⟩ = .string s' ∧ Hid (s'.size ≤ maxLen) ∧ Hid (R = linesP s'.data.toList vs'' ms'') ∧ Hid (RL w wx B v'' vs'' ms'')) := by
        intro vs' ms' v' wx h h'
        exact ⟨⟨rest.toArray⟩, v', vs', ms', rfl, by show _ ≤ _; rw [ba_len]; exact HLE.out.2.1, h, h'⟩
      have HMS : Hid ((ByteArray.mk rest.toArray).size < s.size) := by show _ < _; rw [ba_len]; exact HLE.out.2.2 HFL.out
      clear HZ HEN HBD HST hen
      cases hl : line with
      | nil =>
        have q2 : T.toList.isEmpty = true := by rw [ByteArray.toList_eq, HTL.out, hl]; rfl
        have HN : Hid (R = linesP rest vs ms) := HST2.out _ _ (by unfold lineP; rw [if_pos (.inl hl)])
        clear hl
        go_wp2_with fail
        go_roundw
        case rel => exact HME.out _ _ _ _ HN.out hrl2.out
        case measure => have := HMS.out; simp only [strLen]; omega
      | cons c0 l0 =>
        have q2 : T.toList.isEmpty = false := by rw [ByteArray.toList_eq, HTL.out, hl]; rfl
        have hpos : 0 < T.size := by rw [HTS.out, hl]; simp
        have h0 : T[0] = c0 := by rw [byte_at, HTL.out, hl]; rfl
        have HG : Hid (line.getD 0 0 = c0) := by show _ = _; rw [hl]; rfl
        have HNE : Hid (line ≠ []) := by show _ ≠ _; rw [hl]; simp
        have HPRE := Lib.hid (fun w => hasPre_any T ⟨#[84, 85, 80, 76, 84, 89, 80, 69, 32]⟩ w)
        obtain ⟨bp, hbp⟩ : ∃ b, begP TUPL line = b := ⟨_, rfl⟩
        have HBP : Hid (begP (ByteArray.mk #[84, 85, 80, 76, 84, 89, 80, 69, 32]).data.toList T.data.toList = bp) := by show _ = _; rw [HTL.out]; exact hbp
        rw [HBP.out] at HPRE
        have HBPL := Lib.hid hbp
        clear hl hbp HBP
        go_wp2_with fail
        refine (HPRE.out _).mono ?_
        rintro e w3 ⟨rfl, rfl⟩
        cases bp with
        | true =>
          have HN : Hid (R = linesP rest vs ms) := HST2.out _ _ (by unfold lineP; rw [if_pos (.inr HBPL.out)])
          go_wp2_with fail
          go_roundw
          case rel => exact HME.out _ _ _ _ HN.out hrl2.out
          case measure => have := HMS.out; simp only [strLen]; omega
        | false =>
          by_cases h35 : c0 = 35
          · have HN : Hid (R = linesP rest vs (addP ms line)) := HST2.out _ _ (lineP_hash HNE.out HBPL.out (by rw [HG.out]; exact h35))
            have d35 : ((c0.toNat : Int) == 35) = true := by rw [h35]; rfl
            have HAD := Lib.hid (fun wx h1 h2 => addEntry_any v ms B T wx h1 h2 hrl2.out.le HTM.out)
            rw [HTL.out] at HAD
            have x4 : w2.cell? ⟨B, 4, none⟩ = some v := hrl2.out.hd.cell 4
            clear h35
            go_wp2_with fail
            refine (HAD.out _ hrl2.out.me (by have := hrl2.out.sz; omega)).mono ?_
            rintro e w4 ⟨v4, rfl, hm4, hf4⟩
            have hb4 : Blk w4 B 49 (hdrC 0 0 0 0 v) := hf4.blk hrl2.out.hd (by decide)
            have y4 : w4.cell? ⟨B, 4, none⟩ = some v := hb4.cell 4
            have g4 := hb4.frozen 4
            have HV4 : v4.oneCell' = true := by obtain ⟨x, c, rfl, -⟩ := MOwn.row hm4; exact rfl
            have HRL : Hid (RL w (w4.setCell ⟨B, 4, none⟩ v4) B v4 vs (addP ms line)) := by
              have o := hrl2.out
              refine ⟨hb4.put 4 v4, (hf4.blk o.va (by decide)).other (p := ⟨B, 4, none⟩) (by show B + 1 ≠ B; omega) _, (hf4.blk o.fo (by decide)).other (p := ⟨B, 4, none⟩) (by show B + 1 + 1 ≠ B; omega) _, mown_put hm4 hb4 (by decide) 4 _, addP_dist _ _ o.di, addP_le _ _ o.le, o.l4, ?_, ?_⟩
              · exact below_put (o.be.trans (hf4.below (by have := o.sz; omega))) (p := ⟨B, 4, none⟩) (Nat.le_refl _) _
              · have h1 := o.sz
                have h2 := hf4.size
                simp only [World.setCell, Array.size_modify]; omega
            obtain ⟨xa, ca, hxa, -⟩ := MOwn.row hm4
            clear x4 hf4 hm4 hb4 HV4
            subst hxa
            go_wp2_with fail
            go_roundw
            case rel => exact HME.out _ _ _ _ HN.out HRL.out
            case measure => have := HMS.out; simp only [strLen]; omega
          · have d35 : ((c0.toNat : Int) == 35) = false := by
              rw [Bool.eq_false_iff]; intro h; apply h35; have h1 := beq_iff_eq.1 h; exact UInt8.toNat_inj.1 (by have : (35 : UInt8).toNat = 35 := rfl; omega)
            have H35 : Hid (line.getD 0 0 ≠ 35) := by show _ ≠ _; rw [HG.out]; exact h35
            clear h35
            have HCUT := Lib.hid (fun w => cutS_any T 32 w HTM.out)
            unfold cutV at HCUT
            rw [HTL.out] at HCUT
            have HLE2 : Hid ((line.drop (fnd 32 line + 1)).length ≤ maxLen) := by have := HLE.out.1; show _ ≤ _; rw [List.length_drop]; omega
            have HW := Lib.hid (wIx_cases (line.take (fnd 32 line)))
            have HNN := Lib.hid (fun h => numL_neg (line := line) h)
            have HNO := Lib.hid (fun h => numL_none (line := line) h)
            have HSO := Lib.hid (fun k n h h2 => numL_some (line := line) (k := k) (n := n) h h2)
            have HNP := Lib.hid (numAt_numP (line.drop (fnd 32 line + 1)))
            generalize line.take (fnd 32 line) = word at *
            generalize line.drop (fnd 32 line + 1) = text at *
            generalize decide (fnd 32 line < line.length) = bb at *
            have HWI := Lib.hid (fun w => wordIndex_any ⟨word.toArray⟩ w)
            have HRN := Lib.hid (fun w => readNumber_any ⟨text.toArray⟩ w)
            have HWI2 : Hid (∀ w, Calls Tryd.prog 50 #[.string ⟨word.toArray⟩] w fun e w' => e = .returned (.int .i64 (wIx word)) ∧ w = w') := fun w => HWI.out w
            have HRN2 : Hid (∀ w, Calls Tryd.prog 51 #[.string ⟨text.toArray⟩] w fun e w' => e = .returned (.tuple #[.int .i64 (numAt text).1, .int .i64 (numAt text).2]) ∧ w = w') := fun w => HRN.out w
            clear HWI HRN
            obtain ⟨nv, hnv⟩ : ∃ nv, nv = (numAt text).1 := ⟨_, rfl⟩
            obtain ⟨dg, hdg⟩ : ∃ dg, dg = (numAt text).2 := ⟨_, rfl⟩
            rw [← hnv, ← hdg] at HRN2 HNP
            have HDL : Hid (dg ≤ text.length) := by show _ ≤ _; rw [hdg]; exact numAt_le text
            clear hnv hdg
            obtain ⟨ix, hix⟩ : ∃ ix, ix = wIx word := ⟨_, rfl⟩
            rw [← hix] at HWI2 HW HNN HSO
            clear hix
            go_wp2_with fail
            refine (HCUT.out _).mono ?_
            rintro e w3 ⟨rfl, n2, rfl⟩
            have hrl3 := Lib.hid (hrl2.out.drewN n2)
            clear hrl2
            generalize w2.drewN n2 = w3 at *
            obtain ⟨TX, hTX⟩ : ∃ T : ByteArray, T = ⟨text.toArray⟩ := ⟨_, rfl⟩
            have hTXs : TX.size = text.length := by rw [hTX, ba_len]
            have HTXS := Lib.hid hTXs
            rw [← hTX] at HRN2 ⊢
            clear hTX hTXs
            go_wp2_with fail
            refine (HWI2.out _).mono ?_
            rintro e w4 ⟨rfl, rfl⟩
            go_wp2_with fail
            refine (HRN2.out _).mono ?_
            rintro e w4 ⟨rfl, rfl⟩
            rcases HW.out with hneg | ⟨k, hk, hk4⟩
            · have HF : Hid (sevF R = none) := HBD2.out (lineP_bad1 HNE.out HBPL.out H35.out (HNN.out hneg))
              subst hneg
              go_wp2_with (refine wpList_store_rowTo rfl 49 (.tmp 2) (.tmp 72) rfl rfl B hdr0 (by rfl) (by rfl) 49 (hdrC 0 0 0 0 v) (by exact hrl3.out.hd) hdr0_inf rfl hdr0_one ?_)
              refine bodyPost_ret (v := hd0V) (results_ctt rfl _ _ B 49 hdr0 (0, 0) _ _ _ rfl rfl rfl (hrl3.out.hd.rset hdr0) Tryd.underlying49 rfl hdr0_inf) rfl ⟨?_, by rw [HB.out]; exact below_rset hrl3.out.be (Nat.le_refl _) _⟩
              rw [HP.out, HF.out]; rfl
            · subst hk
              have dk : decide ((k : Int) < 0) = false := by simp
              have k4 : (k : Int) < 4 := by omega
              have k0 : (0 : Int) ≤ (k : Int) := by omega
              have kl : k < vs.length := by have := hrl3.out.l4; omega
              have hfc : w3.cell? ⟨B + 1 + 1, k, none⟩ = some (.bool (vs.getD k none).isSome) := (hrl3.out.fo.cell k).trans (fouC_get vs k kl)
              obtain ⟨bf, hbf⟩ : ∃ b, b = (vs.getD k none).isSome := ⟨_, rfl⟩
              rw [← hbf] at hfc
              have HBF := Lib.hid hbf
              clear hbf
              cases bf with
              | true =>
                have HF : Hid (sevF R = none) := by
                  refine HBD2.out ?_
                  cases hnp : numP text with
                  | none => exact lineP_bad1 HNE.out HBPL.out H35.out (HNO.out hnp)
                  | some n => exact lineP_bad2 HNE.out HBPL.out H35.out (HSO.out k n rfl hnp) HBF.out.symm
                go_wp2_with (refine wpList_store_rowTo rfl 49 (.tmp 2) (.tmp 72) rfl rfl B hdr0 (by rfl) (by rfl) 49 (hdrC 0 0 0 0 v) (by exact hrl3.out.hd) hdr0_inf rfl hdr0_one ?_)
                refine bodyPost_ret (v := hd0V) (results_ctt rfl _ _ B 49 hdr0 (0, 0) _ _ _ rfl rfl rfl (hrl3.out.hd.rset hdr0) Tryd.underlying49 rfl hdr0_inf) rfl ⟨?_, by rw [HB.out]; exact below_rset hrl3.out.be (Nat.le_refl _) _⟩
                rw [HP.out, HF.out]; rfl
              | false =>
                by_cases hd0 : dg = 0
                · subst hd0
                  have HF : Hid (sevF R = none) := HBD2.out (lineP_bad1 HNE.out HBPL.out H35.out (HNO.out (by rw [HNP.out, if_pos (.inl rfl)])))
                  go_wp2_with (refine wpList_store_rowTo rfl 49 (.tmp 2) (.tmp 72) rfl rfl B hdr0 (by rfl) (by rfl) 49 (hdrC 0 0 0 0 v) (by exact hrl3.out.hd) hdr0_inf rfl hdr0_one ?_)
                  refine bodyPost_ret (v := hd0V) (results_ctt rfl _ _ B 49 hdr0 (0, 0) _ _ _ rfl rfl rfl (hrl3.out.hd.rset hdr0) Tryd.underlying49 rfl hdr0_inf) rfl ⟨?_, by rw [HB.out]; exact below_rset hrl3.out.be (Nat.le_refl _) _⟩
                  rw [HP.out, HF.out]; rfl
                have e0 : ((dg : Int) == 0) = false := by simp; omega
                by_cases hdl : dg < text.length
                · have HF : Hid (sevF R = none) := HBD2.out (lineP_bad1 HNE.out HBPL.out H35.out (HNO.out (by rw [HNP.out, if_pos (.inr hdl)])))
                  have e1 : dg < TX.size := by have := HTXS.out; omega
                  go_wp2_with (refine wpList_store_rowTo rfl 49 (.tmp 2) (.tmp 72) rfl rfl B hdr0 (by rfl) (by rfl) 49 (hdrC 0 0 0 0 v) (by exact hrl3.out.hd) hdr0_inf rfl hdr0_one ?_)
                  refine bodyPost_ret (v := hd0V) (results_ctt rfl _ _ B 49 hdr0 (0, 0) _ _ _ rfl rfl rfl (hrl3.out.hd.rset hdr0) Tryd.underlying49 rfl hdr0_inf) rfl ⟨?_, by rw [HB.out]; exact below_rset hrl3.out.be (Nat.le_refl _) _⟩
                  rw [HP.out, HF.out]; rfl
                · have e1 : ¬ dg < TX.size := by have := HTXS.out; omega
                  have HN : Hid (R = linesP rest (vs.set k (some nv)) ms) :=
                    HST2.out _ _ (lineP_good HNE.out HBPL.out H35.out (HSO.out k nv rfl (by rw [HNP.out, if_neg (by omega)])) HBF.out.symm)
                  have hvc : w3.cell? ⟨B + 1, k, none⟩ = some (.int .i64 ((vs.getD k none).getD 0 : Nat)) := (hrl3.out.va.cell k).trans (valC_get vs k kl)
                  have hvf := hrl3.out.va.frozen k
                  have hff := hrl3.out.fo.frozen k
                  clear hd0 hdl
                  have HRL : Hid (RL w ((w3.setCell ⟨B + 1, k, none⟩ (.int .i64 nv)).setCell ⟨B + 1 + 1, k, none⟩ (.bool true)) B v (vs.set k (some nv)) ms) := by
                    have o := hrl3.out
                    have b1 := o.va.put k (.int .i64 nv)
                    have b2 := o.fo.other (p := ⟨B + 1, k, none⟩) (by show B + 1 + 1 ≠ B + 1; omega) (.int .i64 nv)
                    refine ⟨(o.hd.other (p := ⟨B + 1, k, none⟩) (by show B ≠ B + 1; omega) _).other (p := ⟨B + 1 + 1, k, none⟩) (by show B ≠ B + 1 + 1; omega) _, ?_, ?_, mown_put (mown_put o.me o.va (by decide) k _) b2 (by decide) k _, o.di, o.le, by simpa using o.l4, ?_, ?_⟩
                    · have := b1.other (p := ⟨B + 1 + 1, k, none⟩) (by show B + 1 ≠ B + 1 + 1; omega) (.bool true)
                      rwa [valC_set] at this
                    · have := b2.put k (.bool true)
                      rwa [fouC_set vs k nv] at this
                    · exact below_put (below_put o.be (p := ⟨B + 1, k, none⟩) (by show B ≤ B + 1; omega) _) (p := ⟨B + 1 + 1, k, none⟩) (by show B ≤ B + 1 + 1; omega) _
                    · have := o.sz
                      simpa [World.setCell] using this
                  go_wp2_with fail
                  go_roundw
                  case rel => exact HME.out _ _ _ _ HN.out HRL.out
                  case measure => have := HMS.out; simp only [strLen]; omega
end Go.Proofs.YtakkdgcmeeilbaaDoor
