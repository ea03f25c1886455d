/-
  Walk: the longest match that the finder returns is the one of the plain definition.
  Walk: making a finder.
  Walk: deflate.Fixed returns the packed bits of the plain definition, for every string.
  Walks: the reference functions input, Common and Match.
  Walk: the reference function Fixed.
  Walk: the reference function Stored.
  Walks: deflate.Best, the examples of the chapter, and the law DeflateStores.
  Walks: the Adler-32 checksum, in the program and in the reference, is the plain one, for every string.
  Walks: deflate.Zlib and the reference's Best and Zlib; the laws DeflateFixes and DeflateWraps.
-/
import Derived.Test.YthbejefodelpkaaGreatZB
import Derived.Deep.CutBlock
import Derived.Test.YthbejefodelpkaaGreatProg
import Derived.Test.YthbejefodelpkaaGreatZA
import Derived.Deep.RegionWith
namespace Go.Proofs.YthbejefodelpkaaGreat
open Go.RowKit
set_option maxRecDepth 100000

theorem Fd.eq_drewN {w w1 : World} {B N f hd pv : Nat} {s : ByteArray} {p : Nat} (h : Fd w B N f hd pv s p) (hn : ∃ n, w1 = w.drewN n) : Fd w1 B N f hd pv s p := by
  obtain ⟨n, rfl⟩ := hn; exact h.drewN n
theorem drewN_trans {w w1 w2 : World} (h : ∃ n, w1 = w.drewN n) (h' : ∃ n, w2 = w1.drewN n) : ∃ n, w2 = w.drewN n := by
  obtain ⟨n, rfl⟩ := h; obtain ⟨m, rfl⟩ := h'; exact ⟨n + m, by rw [World.drewN_drewN]⟩

set_option maxRecDepth 100000 in
set_option maxHeartbeats 2000000 in
theorem longest_any (w : World) (B N f hd pv : Nat) (s : ByteArray) (p : Nat) (hF : Fd w B N f hd pv s p) (hp : p < s.size) (hs : s.size < 1000000000) :
    Calls Tryz.prog 120 #[.pointer (some ⟨f, 0, none⟩), .int .i64 p] w fun e w' =>
      e = .returned (.tuple #[.int .i64 (matchP s.data.toList p).1, .int .i64 (matchP s.data.toList p).2]) ∧ ∃ n, w' = w.drewN n := by
  have hc0 := hF.blk.cell 0
  simp at hc0
  have hl : s.data.toList.length = s.size := by simp
  obtain ⟨M, hM⟩ : ∃ M, M = most s.data.toList p := ⟨_, rfl⟩
  have hM1 : M ≤ 258 := by rw [hM]; unfold most; omega
  have hM2 : p + M ≤ s.size := by rw [hM]; unfold most; omega
  go_enter Tryz.func120, Tryz.ntmps120
  go_upto_region 1 with (fail)
  go_cut [6] (fun v wx => v = .int .i64 M ∧ wx = w)
  case first =>
    go_wp2_with fail
    all_goals
      go_meet
      refine ⟨?_, rfl⟩
      congr 1
      rw [hM]; unfold most; omega
  case rest =>
    obtain ⟨rfl, rfl⟩ := hcut
    have HM := Lib.hid hM
    clear hM hl
    by_cases h3 : M < 3
    · go_wp2_with fail
      go_ret2
      rw [matchP_short _ _ (by rw [← HM.out]; exact h3)]
      exact ⟨rfl, 0, rfl⟩
    · have h3p : p + 3 ≤ s.size := by omega
      have hd3 : decide ((M : Int) < 3) = false := by simp; omega
      obtain ⟨h, hh⟩ : ∃ h, h = hash3 s.data.toList p := ⟨_, rfl⟩
      have hcall := hash_any wc f p s _ _ hF.blk h3p hs
      rw [← hh] at hcall
      have HC : Hid (∀ n, Calls Tryz.prog 147 #[.pointer (some ⟨f, 0, none⟩), .int .i64 p] (wc.drewN n) fun e w' => e = .returned (.int .i64 h) ∧ ∃ m, w' = wc.drewN m) := by
        intro n
        rw [hh]
        exact (hash_any (wc.drewN n) f p s _ _ (hF.blk.drewN n) h3p hs).mono fun e w' ⟨he, m, hm⟩ => ⟨he, n + m, by rw [hm, World.drewN_drewN]⟩
      clear hcall
      obtain ⟨H, a, b⟩ := hF.head
      have hhN : h < N := by rw [hh, hF.hN.out]; exact hash3_lt _ _
      have ch := a.cell h
      rw [b h hhN] at ch
      have hc1 := hF.blk.cell 1
      simp at hc1
      obtain ⟨x, hx⟩ : ∃ x, x = headP s.data.toList p h := ⟨_, rfl⟩
      rw [← hx] at ch
      have hxl : x ≤ p := by rw [hx]; exact headP_le _ _ _
      have HX := Lib.hid hx
      have HH := Lib.hid hh
      clear hx hh b a
      go_wp2_with fail
      have hlt : (h : Int) < (N : Int) := by omega
      have hwx : IntKind.i64.wrap ((x : Int) - 1) = (x : Int) - 1 := IntWalk.i64_in _ (by omega)
      go_quiet ((go_at_call 147; exact HC.out _))
      clear hlt hwx hhN
      go_wp2_with fail
      go_loopw [4, 5, 7, 8] (fun vl vd vq _ wr => ∃ q1 a b : Nat, vq = .int .i64 ((q1 : Int) - 1) ∧ vl = .int .i64 a ∧ vd = .int .i64 b ∧ q1 ≤ p ∧ a ≤ 258 ∧
          Hid ((a, b) = norm3 (mtGo s.data.toList p (min (p - q1) 4096))) ∧ Hid (0 < q1 → hash3 s.data.toList (q1 - 1) = hash3 s.data.toList p) ∧ Fd wr B N f hd pv s p ∧ Hid (∃ n, wr = wc.drewN n)) (fun _ _ vq _ _ => (intOf vq + 1).toNat)
      case atStart =>
        refine ⟨x, 0, 0, rfl, rfl, rfl, hxl, by omega, ?_, ?_, hF.drewN _, ⟨_, rfl⟩⟩
        · show _ = _
          rw [HX.out, HH.out, chain_start _ _ (by simpa using h3p)]
        · intro h0
          rw [HX.out, headP_hash _ _ _ (by rw [← HX.out]; exact h0)]
          exact HH.out
      case round =>
        clear hF hc0 hc1 ch HC HH HX hxl
        obtain ⟨q1, a, b, rfl, rfl, rfl, hq1, ha, hab, hhq, hF, hdr⟩ := hrel
        by_cases hex : q1 = 0 ∨ 4096 < p - (q1 - 1)
        · have hres : Hid (matchP s.data.toList p = (a, b)) := by
            show _ = _
            rw [← match_end _ _ _ hex hq1, hab.out]
          by_cases hq0 : q1 = 0
          · subst hq0
            go_wp2_with fail
            go_ret2
            rw [hres.out]
            exact ⟨rfl, hdr.out⟩
          · have hge : decide ((0 : Int) ≤ (q1 : Int) - 1) = true := by simp; omega
            go_wp2_with fail
            go_ret2
            rw [hres.out]
            exact ⟨rfl, hdr.out⟩
        · obtain ⟨q, rfl⟩ : ∃ q, q1 = q + 1 := ⟨q1 - 1, by omega⟩
          have hcast : ((q + 1 : Nat) : Int) - 1 = (q : Int) := by omega
          rw [hcast]
          clear hcast
          have hd1 : (p : Int) - (q : Int) ≤ 4096 := by omega
          have hqp : q < p := by omega
          clear hex
          have htry := chain_try s.data.toList p (q + 1) a b (by omega) hq1 (by omega) hab.out
          rw [Nat.add_sub_cancel] at htry
          have HT := Lib.hid htry
          have hhq' := hhq.out (by omega)
          rw [Nat.add_sub_cancel] at hhq'
          have HQ := Lib.hid hhq'
          clear htry hhq hhq' hab
          have hc0 := hF.blk.cell 0
          simp at hc0
          obtain ⟨c, hc⟩ : ∃ c, c = cm s.data.toList p q := ⟨_, rfl⟩
          have hcM : c ≤ M := by rw [hc, HM.out]; exact cm_le _ _ _
          have HCM := Lib.hid hc
          clear hc
          obtain ⟨w0, rfl⟩ : ∃ w0 : World, w0 = wc := ⟨_, rfl⟩
          go_upto_block 2 with (fail)
          obtain ⟨wo, rfl⟩ : ∃ wo : World, wo = wr := ⟨_, rfl⟩
          go_cut [8] (fun vn wx => vn = .int .i64 c ∧ Fd wx B N f hd pv s p ∧ Hid (∃ n, wx = w0.drewN n))
          case first =>
            go_wp2_with fail
            go_loopw [8] (fun vn wi => ∃ k : Nat, vn = .int .i64 k ∧ k ≤ M ∧ Hid (cmGo s.data.toList p q (M - k) k = c) ∧ wi.cell? ⟨f, 0, none⟩ = some (.string s) ∧ Hid (∃ n, wi = wo.drewN n)) (fun vn _ => M - (intOf vn).toNat)
            case atStart => exact ⟨0, rfl, Nat.zero_le _, by show _ = _; rw [HCM.out, HM.out]; rfl, hc0, ⟨0, rfl⟩⟩
            case round =>
              clear hc0
              obtain ⟨k, rfl, hk, hcm, hc0, hdi⟩ := hrel
              by_cases hkM : k < M
              · have hg : decide ((k : Int) < (M : Int)) = true := by simp; omega
                have hx1 : (q : Int) + (k : Int) < (s.size : Int) := by omega
                have hx2 : (p : Int) + (k : Int) < (s.size : Int) := by omega
                go_wp2_with fail
                have w1 : IntKind.i64.wrap ((q : Int) + (k : Int)) = (q : Int) + (k : Int) := IntWalk.i64_in _ (by omega)
                have w2 : IntKind.i64.wrap ((p : Int) + (k : Int)) = (p : Int) + (k : Int) := IntWalk.i64_in _ (by omega)
                have z1 : (0 : Int) ≤ (q : Int) + (k : Int) := by omega
                have z2 : (0 : Int) ≤ (p : Int) + (k : Int) := by omega
                have n1 : ((q : Int) + (k : Int)).toNat = q + k := by omega
                have n2 : ((p : Int) + (k : Int)).toNat = p + k := by omega
                go_quiet (fail)
                clear w1 w2
                go_wp2_with fail
                · have he : ((s[q + k].toNat : Int) == (s[p + k].toNat : Int)) = true := by assumption
                  have he' := byte_beq he
                  go_roundw
                  case rel =>
                    refine ⟨k + 1, by go_num, by omega, ?_, hc0, drewN_trans hdi.out ⟨_, rfl⟩⟩
                    show _ = _
                    rw [cmGo_yes _ _ _ _ _ hkM (by rw [at8, at8, ← byte_at s (q + k) (by omega), ← byte_at s (p + k) (by omega)]; exact he')]
                    exact hcm.out
                  case measure => simp [intOf]; omega
                · have he : ((s[q + k].toNat : Int) == (s[p + k].toNat : Int)) = false := by assumption
                  have he' := byte_bne he
                  go_meet
                  refine ⟨?_, hF.eq_drewN (drewN_trans hdi.out ⟨_, rfl⟩), drewN_trans hdr.out (drewN_trans hdi.out ⟨_, rfl⟩)⟩
                  rw [← hcm.out, cmGo_no _ _ _ _ _ hkM (by rw [at8, at8, ← byte_at s (q + k) (by omega), ← byte_at s (p + k) (by omega)]; exact he')]
              · have hg : decide ((k : Int) < (M : Int)) = false := by simp; omega
                go_wp2_with fail
                go_quiet (fail)
                go_wp2_with fail
                go_meet
                refine ⟨?_, hF.eq_drewN (drewN_trans hdi.out ⟨_, rfl⟩), drewN_trans hdr.out (drewN_trans hdi.out ⟨_, rfl⟩)⟩
                have e : M - k = 0 := by omega
                rw [← hcm.out, e]
                rfl
          case rest =>
            clear hF hdr hc0
            obtain ⟨rfl, hF, hdr⟩ := hcut
            obtain ⟨V, cv, dv, ev⟩ := hF.prev
            have cq := cv.cell q
            rw [ev q hqp (by omega)] at cq
            have hc2 := hF.blk.cell 2
            simp at hc2
            obtain ⟨y, hy⟩ : ∃ y, y = headP s.data.toList q (hash3 s.data.toList q) := ⟨_, rfl⟩
            rw [← hy] at cq
            have hyl : y ≤ q := by rw [hy]; exact headP_le _ _ _
            have HY := Lib.hid hy
            clear hy ev dv cv
            have hqs : (q : Int) < (s.size : Int) := by omega
            go_wp2_with fail
            · have h1 : (3 : Int) ≤ (c : Int) := by assumption
              have h2 : a < c := by assumption
              have h4 : ((c : Int) == (M : Int)) = true := by assumption
              have e := HT.out
              rw [← HCM.out, if_pos ⟨by omega, h2⟩] at e
              have h5 := match_full s.data.toList p (p - q) c (p - q) (by omega) e.symm (by rw [← HM.out]; have := beq_iff_eq.1 h4; omega)
              go_ret2
              rw [← h5]
              refine ⟨?_, hdr.out⟩
              have e2 : (p : Int) - (q : Int) = ((p - q : Nat) : Int) := by omega
              rw [← e2]
              rfl
            · have h1 : (3 : Int) ≤ (c : Int) := by assumption
              have h2 : a < c := by assumption
              have e := HT.out
              rw [← HCM.out, if_pos ⟨by omega, h2⟩, ← chain_step _ _ q (by omega) (by simpa using h3p), ← HQ.out, ← HY.out] at e
              go_roundw
              case rel =>
                refine ⟨y, c, p - q, rfl, rfl, by go_num, by omega, by omega, e.symm, ?_, hF, hdr⟩
                intro h0
                rw [HY.out, headP_hash _ _ _ (by rw [← HY.out]; exact h0)]
                exact HQ.out
              case measure => simp [intOf]; omega
            · have h1 : (3 : Int) ≤ (c : Int) := by assumption
              have h2 : ¬ a < c := by assumption
              have h4 : ((a : Int) == (M : Int)) = true := by assumption
              have e := HT.out
              rw [← HCM.out, if_neg (by omega)] at e
              have h5 := match_full s.data.toList p (p - q) a b (by omega) e.symm (by rw [← HM.out]; have := beq_iff_eq.1 h4; omega)
              go_ret2
              rw [← h5]
              exact ⟨rfl, hdr.out⟩
            · have h1 : (3 : Int) ≤ (c : Int) := by assumption
              have h2 : ¬ a < c := by assumption
              have e := HT.out
              rw [← HCM.out, if_neg (by omega), ← chain_step _ _ q (by omega) (by simpa using h3p), ← HQ.out, ← HY.out] at e
              go_roundw
              case rel =>
                refine ⟨y, a, b, rfl, rfl, rfl, by omega, by omega, e.symm, ?_, hF, hdr⟩
                intro h0
                rw [HY.out, headP_hash _ _ _ (by rw [← HY.out]; exact h0)]
                exact HQ.out
              case measure => simp [intOf]; omega
            · have h1 : (c : Int) < 3 := by assumption
              have h4 : ((a : Int) == (M : Int)) = true := by assumption
              have e := HT.out
              rw [← HCM.out, if_neg (by omega)] at e
              have h5 := match_full s.data.toList p (p - q) a b (by omega) e.symm (by rw [← HM.out]; have := beq_iff_eq.1 h4; omega)
              go_ret2
              rw [← h5]
              exact ⟨rfl, hdr.out⟩
            · have h1 : ¬ (3 : Int) ≤ (c : Int) := by assumption
              have e := HT.out
              rw [← HCM.out, if_neg (by omega), ← chain_step _ _ q (by omega) (by simpa using h3p), ← HQ.out, ← HY.out] at e
              go_roundw
              case rel =>
                refine ⟨y, a, b, rfl, rfl, rfl, by omega, by omega, e.symm, ?_, hF, hdr⟩
                intro h0
                rw [HY.out, headP_hash _ _ _ (by rw [← HY.out]; exact h0)]
                exact HQ.out
              case measure => simp [intOf]; omega
end Go.Proofs.YthbejefodelpkaaGreat
namespace Go.Proofs.YthbejefodelpkaaGreat
open Go.RowKit
set_option maxRecDepth 100000

theorem del_int : Elem Tryz.prog 51 3 (.int .i64 0) 1 8 := by
  refine ⟨Tryz.underlying51, ?_, rfl, by decide⟩
  exact info_parts (by kernel_rfl)

theorem fd_new {w : World} {B N f hd pv : Nat} {s : ByteArray} (hN : N = 32768) (h1 : Blk w f 155 #[.string s, .slice (some ⟨hd, 0, none⟩) N N, .slice (some ⟨pv, 0, none⟩) s.size s.size])
    (h2 : Blk w hd 3 (mkRow (.int .i64 0) N)) (h3 : Blk w pv 3 (mkRow (.int .i64 0) s.size)) (hne : hd ≠ pv) (hb : B ≤ hd) (hb' : B ≤ pv) : Fd w B N f hd pv s 0 :=
  ⟨h1, ⟨_, h2, fun h hh => by rw [mkRow_get _ _ _ hh]; rfl⟩, ⟨_, h3, mkRow_size _ _, fun q hq => absurd hq (by omega)⟩, hne, hN, hb, hb'⟩

set_option maxRecDepth 100000 in
set_option maxHeartbeats 1000000 in
theorem newFinder_any (w : World) (s : ByteArray) (hs : s.size < 1000000000) :
    Calls Tryz.prog 119 #[.string s] w fun e w' => (∃ N f hd pv, e = .returned (.pointer (some ⟨f, 0, none⟩)) ∧ Fd w' w.heap.size N f hd pv s 0) ∧ Below w.heap.size w w' := by
  obtain ⟨N, hN, hm1⟩ : ∃ N, N = 32768 ∧ ∀ w, (Instr.makeSlice 51 (.int .i64 32768) (.int .i64 32768)).run Tryz.prog w = .ok (.slice (some ⟨w.heap.size, 0, none⟩) N N) (w.alloc (.cells (mkRow (.int .i64 0) N) 3)) :=
    ⟨32768, rfl, run_mk del_int rfl 32768 (by omega) (by omega)⟩
  have hm2 := run_mk del_int rfl s.size (by omega) (by omega)
  have HN := Lib.hid hN
  clear hN
  go_enter Tryz.func119, Tryz.ntmps119
  go_wp2_with fail
  go_region
  · go_wp2_with fail
    go_ret
    refine ⟨⟨N, w.heap.size + 1 + 1, w.heap.size, w.heap.size + 1, rfl, ?_⟩, ?_⟩
    · exact fd_new HN.out (Blk.new_at (by simp) _ _) (((Blk.new w _ _).alloc _).alloc _) ((Blk.new_at (by simp) _ _).alloc _) (by omega) (Nat.le_refl _) (by omega)
    · exact ((((Below.refl _ _).alloc (Nat.le_refl _) _).alloc (by simp) _).alloc (by simp; omega) _).drew
  · go_wp2_with fail
    go_ret
    refine ⟨⟨N, w.heap.size + 1 + 1, w.heap.size + 1, w.heap.size, rfl, ?_⟩, ?_⟩
    · exact fd_new HN.out (Blk.new_at (by simp) _ _) ((Blk.new_at (by simp) _ _).alloc _) (((Blk.new w _ _).alloc _).alloc _) (by omega) (by omega) (Nat.le_refl _)
    · exact ((((Below.refl _ _).alloc (Nat.le_refl _) _).alloc (by simp) _).alloc (by simp; omega) _).drew
end Go.Proofs.YthbejefodelpkaaGreat
namespace Go.Proofs.YthbejefodelpkaaGreat
open Go.RowKit
set_option maxRecDepth 100000

theorem wr_new {w : World} {T : TypeId} {g : Nat} (hg : g = w.heap.size) : Wr T (w.alloc (.cells #[.slice none 0 0, .int .i64 0] T)) w.heap.size g [] := by
  subst hg
  exact ⟨.slice none 0 0, Blk.new w T _, by rw [pack_nil]; exact World.ownsRow_nil _ _ _ _, Nat.le_refl _⟩

theorem Wr.fr {T : TypeId} {w w' : World} {B g B' : Nat} {bs : List Bool} {L : List TypeId} (h : Wr T w B g bs) (hf : Fr B' L w w') (h1 : T ∉ L) (h2 : 5 ∉ L) : Wr T w' B g bs := by
  obtain ⟨v, a, b, c⟩ := h
  exact ⟨v, hf.blk a h1, hf.owns b h2, c⟩
theorem Wr.drewN {T : TypeId} {w : World} {B g : Nat} {bs : List Bool} (h : Wr T w B g bs) (n : Nat) : Wr T (w.drewN n) B g bs := h

/-- The input: at most 1048576 bytes. -/
def inp (s : ByteArray) : ByteArray := s.extract 0 (min s.size 1048576)
theorem inp_size (s : ByteArray) : (inp s).size ≤ 1048576 := by unfold inp; rw [ByteArray.size_extract]; omega
theorem inp_list (s : ByteArray) : (inp s).data.toList = s.data.toList.take 1048576 := by
  unfold inp
  rw [extract_list, List.drop_zero]
  by_cases h : s.size ≤ 1048576
  · rw [Nat.min_eq_left h, List.take_of_length_le (by simp), List.take_of_length_le (by simpa using h)]
  · rw [Nat.min_eq_right (by omega)]

set_option maxRecDepth 100000 in
set_option maxHeartbeats 1000000 in
theorem fixed_any (s : ByteArray) (w : World) (hs : s.size ≤ maxLen) :
    Calls Tryz.prog 100 #[.string s] w fun e w' => e = .returned (.string ⟨(fixed (s.data.toList.take 1048576)).toArray⟩) ∧ Below w.heap.size w w' := by
  have hin := input_any s w hs
  have hz := inp_size s
  have hl := inp_list s
  change Calls _ _ _ _ (fun e w' => e = .returned (.string (inp s)) ∧ w = w') at hin
  generalize inp s = t at *
  have HL := Lib.hid hl
  have HI := Lib.hid hin
  clear hl hin
  obtain ⟨n, hn⟩ : ∃ n, n = t.size := ⟨_, rfl⟩
  have hz' : t.size < 1000000000 := by omega
  have hln : Hid (t.data.toList.length = t.size) := by show _ = _; simp
  go_enter Tryz.func100, Tryz.ntmps100
  go_wp2_with fail
  refine HI.out.mono ?_
  rintro e w1 ⟨rfl, rfl⟩
  clear HI
  go_wp2_with fail
  have hw0 := wr_new (w := w) (T := 123) rfl
  have hb0 : Below w.heap.size w (w.alloc (.cells #[.slice none 0 0, .int .i64 0] 123)) := (Below.refl _ _).alloc (Nat.le_refl _) _
  obtain ⟨g, hg⟩ : ∃ g, g = w.heap.size := ⟨_, rfl⟩
  rw [← hg] at hw0 hb0 ⊢
  have HG := Lib.hid hg
  clear hg
  generalize w.alloc (.cells #[.slice none 0 0, .int .i64 0] 123) = wa at hw0 hb0 ⊢
  refine (dnumber_any _ g g [] _ _ (by omega) (by omega) (by omega) hw0 (by simp)).mono ?_
  rintro e w1 ⟨rfl, hw1, hf1⟩
  go_wp2_with fail
  refine (dnumber_any _ g g _ _ _ (by omega) (by omega) (by omega) hw1 (by simp [numBits])).mono ?_
  rintro e w2 ⟨rfl, hw2, hf2⟩
  go_wp2_with fail
  refine (newFinder_any _ t hz').mono ?_
  rintro e w3 ⟨⟨N, f, hd, pv, rfl, hF⟩, hb3⟩
  have hw3 := hw2.fr (Fr.of_below (B := 0) hb3 []) (by simp) (by simp)
  have hB : g ≤ w2.heap.size := by have := hb0.size; have := hf1.size; have := hf2.size; have := HG.out; omega
  have hbel : Below g w w3 := (hb0.trans ((hf1.trans hf2).below (by have := hb0.size; have := HG.out; omega))).trans (hb3.mono hB)
  clear hw0 hw1 hw2 hf1 hf2 hb3 hb0 hn
  generalize w2.heap.size = B2 at *
  go_wp2_with fail
  go_loopw [5, 6, 7] (fun vp _ _ wr => ∃ (p : Nat) (bs : List Bool), vp = .int .i64 p ∧ p ≤ t.size ∧ Wr 123 wr g g bs ∧ Fd wr B2 N f hd pv t p ∧
      Hid (bs ++ fixedGo t.data.toList (t.data.toList.length - p) p = numBits 1 1 ++ numBits 1 2 ++ fixedGo t.data.toList t.data.toList.length 0) ∧ bs.length ≤ 3 + 29 * p ∧ Below g w wr) (fun vp _ _ _ => t.size - (intOf vp).toNat)
  case atStart => exact ⟨0, _, rfl, Nat.zero_le _, hw3, hF, rfl, by simp [numBits], hbel⟩
  case round =>
    clear hw3 hF hbel
    obtain ⟨p, bs, rfl, hp, hw, hF, hbs, hlen, hbel⟩ := hrel
    by_cases hlt : p < t.size
    · go_wp2_with fail
      refine (longest_any _ _ _ _ _ _ t p hF hlt hz').mono ?_
      rintro e w4 ⟨rfl, n4, hn4⟩
      have hF4 := hF.eq_drewN ⟨n4, hn4⟩
      have hw4 : Wr 123 w4 g g bs := by rw [hn4]; exact hw.drewN n4
      have hbel4 : Below g w w4 := by rw [hn4]; exact ⟨hbel.os, hbel.tape, hbel.output, hbel.size, hbel.block⟩
      clear hn4 hF hw hbel
      have hok := matchP_ok t.data.toList p
      have htk := tok_pos t.data.toList p (by rw [hln.out]; exact hlt)
      have htb := tok_bits t.data.toList p
      have hte : Hid (tok t.data.toList p = if (matchP t.data.toList p).1 = 0 then (symBits (at8 t.data.toList p).toNat, 1) else (matchBits (matchP t.data.toList p).1 (matchP t.data.toList p).2, (matchP t.data.toList p).1)) := rfl
      have hstep := fixedGo_step t.data.toList p (by rw [hln.out]; exact hlt)
      rw [hln.out] at htk hok
      have hbs' : Hid (bs ++ (tok t.data.toList p).1 ++ fixedGo t.data.toList (t.data.toList.length - (p + (tok t.data.toList p).2)) (p + (tok t.data.toList p).2) = numBits 1 1 ++ numBits 1 2 ++ fixedGo t.data.toList t.data.toList.length 0) := by
        show _ = _
        rw [← hbs.out, hstep, List.append_assoc]
      clear hstep hbs
      generalize matchP t.data.toList p = nd at *
      generalize tok t.data.toList p = tk at *
      obtain ⟨n, d⟩ := nd
      obtain ⟨tb, tn⟩ := tk
      simp only at hok htk htb hte hbs'
      have HOK := Lib.hid hok
      clear hok
      go_upto_if 29 with (fail)
      go_cut [6, 7] (fun vn _ wx => vn = .int .i64 tn ∧ Wr 123 wx g g (bs ++ tb) ∧ Fd wx B2 N f hd pv t p ∧ Below g w wx)
      case first =>
        by_cases hn0 : n = 0
        · subst hn0
          have hte' := hte.out
          rw [if_pos rfl] at hte'
          have HE := Lib.hid hte'
          clear hte hte'
          go_wp2_with fail
          have hbt := (t[p]).toNat_lt
          refine (dsymbol_any _ g g bs _ (by rw [wrap64_byte']; omega) (by rw [wrap64_byte']; omega) hw4 (by omega)).mono ?_
          rintro e w5 ⟨rfl, hw5, hf5⟩
          go_wp2_with fail
          go_meet
          have he := HE.out
          injection he with h1 h2
          refine ⟨by rw [h2]; rfl, ?_, hF4.fr hf5 (by decide) (by decide), hbel4.trans (hf5.below (by have := hbel4.size; have := HG.out; omega))⟩
          rw [wrap64_byte', Int.toNat_natCast] at hw5
          rw [h1, at8, ← byte_at t p hlt]
          exact hw5
        · have hne : ((n : Int) == 0) = false := by simp; omega
          obtain ⟨o1, o2, o3, o4, o5, o6, _⟩ := HOK.out hn0
          have hte' := hte.out
          rw [if_neg hn0] at hte'
          have HE := Lib.hid hte'
          clear hte hte'
          go_wp2_with fail
          refine (dmatch_any _ g g bs n d o1 o2 o4 o5 hw4 (by omega)).mono ?_
          rintro e w5 ⟨rfl, hw5, hf5⟩
          go_wp2_with fail
          go_meet
          have he := HE.out
          injection he with h1 h2
          refine ⟨by rw [h2], ?_, hF4.fr hf5 (by decide) (by decide), hbel4.trans (hf5.below (by have := hbel4.size; have := HG.out; omega))⟩
          rw [h1]
          exact hw5
      case rest =>
        clear hF4 hw4 hbel4 HOK hte
        obtain ⟨rfl, hw4, hF4, hbel4⟩ := hcut
        go_wp2_with fail
        obtain ⟨wo, rfl⟩ : ∃ wo : World, wo = wc := ⟨_, rfl⟩
        go_loopw [5, 41] (fun vp vk wi => ∃ k pk : Nat, vk = .int .i64 k ∧ vp = .int .i64 pk ∧ pk ≤ p + k ∧ p + k ≤ pk ∧ k ≤ tn ∧ Wr 123 wi g g (bs ++ tb) ∧ Fd wi B2 N f hd pv t pk ∧ Below g w wi) (fun _ vk _ => tn - (intOf vk).toNat)
        case atStart => exact ⟨0, p, rfl, rfl, Nat.le_refl _, Nat.le_refl _, Nat.zero_le _, hw4, hF4, hbel4⟩
        case round =>
          clear hw4 hF4 hbel4
          obtain ⟨k, pk, rfl, rfl, hpk1, hpk2, hk, hw5, hF5, hbel5⟩ := hrel
          by_cases hkn : k < tn
          · go_wp2_with fail
            refine (add_any _ _ _ _ _ _ t pk hF5 (by omega) hz').mono ?_
            rintro e w6 ⟨rfl, hF6, hf6⟩
            have hB2 : g ≤ wr.heap.size := by have := hbel5.size; have := HG.out; omega
            go_wp2_with fail
            go_roundw
            case rel => exact ⟨k + 1, pk + 1, by go_num, by go_num, by omega, by omega, by omega, hw5.fr hf6 (by decide) (by decide), hF6, hbel5.trans ((hf6.mono hB (fun _ h => h)).below hB2)⟩
            case measure => simp [intOf]; omega
          · obtain rfl : k = tn := by omega
            obtain rfl : pk = p + k := by omega
            go_wp2_with fail
            go_roundw
            case rel => exact ⟨p + k, bs ++ tb, by go_num, by omega, hw5, hF5, hbs', by rw [List.length_append]; omega, hbel5⟩
            case measure => simp [intOf]; omega
    · go_wp2_with fail
      refine (dsymbol_any _ g g bs _ (by omega) (by omega) hw (by omega)).mono ?_
      rintro e w5 ⟨rfl, ⟨v5, hb5, hr5, _⟩, hf5⟩
      have hbel5 := hbel.trans (hf5.below (by have := hbel.size; have := HG.out; omega))
      have hc5 := hb5.cell 0
      simp at hc5
      have hcv := run_str_of Tryz.underlying54 Tryz.underlying5 Tryz.underlying9 hr5
      clear hr5
      have hfin : Hid (pack (bs ++ symBits 256) = fixed (s.data.toList.take 1048576)) := by
        show _ = _
        have h1 := hbs.out
        rw [fixedGo_end _ _ (by rw [hln.out]; omega), List.append_nil] at h1
        rw [h1, fixed, fixedBits, HL.out]
      go_wp2
      go_ret
      rw [HG.out] at hbel5
      refine ⟨?_, hbel5⟩
      rw [← hfin.out]
      rfl
end Go.Proofs.YthbejefodelpkaaGreat
namespace Go.Proofs.YthbejefodelpkaaGreat
open Go.RowKit
set_option maxRecDepth 100000

theorem rinput_any (s : ByteArray) (w : World) (hs : s.size ≤ maxLen) :
    Calls Tryz.prog 81 #[.string s] w fun e w' => e = .returned (.string (inp s)) ∧ w = w' := by
  unfold maxLen at hs
  go_enter Tryz.func81, Tryz.ntmps81
  by_cases h : s.size ≤ 1048576
  · go_wp2
    go_ret
    refine ⟨?_, rfl⟩
    unfold inp
    rw [Nat.min_eq_left (by omega)]; simp
  · go_wp2
    go_ret
    refine ⟨?_, rfl⟩
    unfold inp
    rw [Nat.min_eq_right (by omega)]; rfl

set_option maxRecDepth 100000 in
set_option maxHeartbeats 1000000 in
theorem rcommon_any (w : World) (s : ByteArray) (p d : Nat) (hp : p < s.size) (hd : d ≤ p) (hs : s.size < 1000000000) :
    Calls Tryz.prog 152 #[.string s, .int .i64 p, .int .i64 d] w fun e w' => e = .returned (.int .i64 (cm s.data.toList p (p - d))) ∧ ∃ n, w' = w.drewN n := by
  have hl : s.data.toList.length = s.size := by simp
  obtain ⟨M, hM⟩ : ∃ M, M = most s.data.toList p := ⟨_, rfl⟩
  have hM1 : M ≤ 258 := by rw [hM]; unfold most; omega
  have hM2 : p + M ≤ s.size := by rw [hM]; unfold most; omega
  have hM3 : M = 258 ∨ p + M = s.size := by rw [hM]; unfold most; omega
  have HM := Lib.hid hM
  have HM3 := Lib.hid hM3
  clear hM hl hM3
  obtain ⟨q, hq⟩ : ∃ q, q = p - d := ⟨_, rfl⟩
  have hq1 : q + d ≤ p := by omega
  have hq2 : p ≤ q + d := by omega
  rw [← hq]
  clear hq
  go_enter Tryz.func152, Tryz.ntmps152
  go_wp2_with fail
  go_loopw [7] (fun vn wi => ∃ k : Nat, vn = .int .i64 k ∧ k ≤ M ∧ Hid (cmGo s.data.toList p q (M - k) k = cm s.data.toList p q) ∧ Hid (∃ n, wi = w.drewN n)) (fun vn _ => M - (intOf vn).toNat)
  case atStart => exact ⟨0, rfl, Nat.zero_le _, by show _ = _; rw [HM.out]; rfl, ⟨0, rfl⟩⟩
  case round =>
    obtain ⟨k, rfl, hk, hcm, hdi⟩ := hrel
    by_cases hkM : k < M
    · have hg1 : decide ((k : Int) < 258) = true := by simp; omega
      have hg2 : decide ((p : Int) + (k : Int) < (s.size : Int)) = true := by simp; omega
      have hx1 : (p : Int) + (k : Int) - (d : Int) < (s.size : Int) := by omega
      have hx2 : (p : Int) + (k : Int) < (s.size : Int) := by omega
      go_wp2_with fail
      have w2 : IntKind.i64.wrap ((p : Int) + (k : Int)) = (p : Int) + (k : Int) := IntWalk.i64_in _ (by omega)
      have w1 : IntKind.i64.wrap ((p : Int) + (k : Int) - (d : Int)) = (p : Int) + (k : Int) - (d : Int) := IntWalk.i64_in _ (by omega)
      have z1 : (0 : Int) ≤ (p : Int) + (k : Int) - (d : Int) := by omega
      have z1' : (d : Int) ≤ (p : Int) + (k : Int) := by omega
      have z2 : (0 : Int) ≤ (p : Int) + (k : Int) := by omega
      have n1 : ((p : Int) + (k : Int) - (d : Int)).toNat = q + k := by omega
      have n2 : ((p : Int) + (k : Int)).toNat = p + k := by omega
      go_quiet (fail)
      clear w1 w2
      go_wp2_with fail
      · have he : ((s[p + k].toNat : Int) == (s[q + k].toNat : Int)) = true := by assumption
        have he' := byte_beq he
        go_roundw
        case rel =>
          refine ⟨k + 1, by go_num, by omega, ?_, drewN_trans hdi.out ⟨_, rfl⟩⟩
          show _ = _
          rw [cmGo_yes _ _ _ _ _ hkM (by rw [at8, at8, ← byte_at s (q + k) (by omega), ← byte_at s (p + k) (by omega)]; exact he'.symm)]
          exact hcm.out
        case measure => simp [intOf]; omega
      · have he : ((s[p + k].toNat : Int) == (s[q + k].toNat : Int)) = false := by assumption
        have he' := byte_bne he
        go_ret
        refine ⟨ret_int ?_, drewN_trans hdi.out ⟨_, rfl⟩⟩
        rw [← hcm.out, cmGo_no _ _ _ _ _ hkM (by rw [at8, at8, ← byte_at s (q + k) (by omega), ← byte_at s (p + k) (by omega)]; exact fun h => he' h.symm)]
    · have hend : Hid (cm s.data.toList p q = k) := by
        show _ = _
        have e : M - k = 0 := by omega
        rw [← hcm.out, e]; rfl
      rcases HM3.out with hx | hx
      · have hg1 : decide ((k : Int) < 258) = false := by simp; omega
        go_wp2_with fail
        go_quiet (fail)
        go_wp2_with fail
        go_ret
        refine ⟨ret_int ?_, drewN_trans hdi.out ⟨_, rfl⟩⟩
        rw [hend.out]
      · by_cases h258 : k < 258
        · have hg1 : decide ((k : Int) < 258) = true := by simp; omega
          have hg2 : decide ((p : Int) + (k : Int) < (s.size : Int)) = false := by simp; omega
          have HX := Lib.hid hx
          clear hx
          go_wp2_with fail
          have w2 : IntKind.i64.wrap ((p : Int) + (k : Int)) = (p : Int) + (k : Int) := IntWalk.i64_in _ (by omega)
          go_quiet (fail)
          clear w2
          go_wp2_with fail
          go_ret
          refine ⟨ret_int ?_, drewN_trans hdi.out ⟨_, rfl⟩⟩
          rw [hend.out]
        · have hg1 : decide ((k : Int) < 258) = false := by simp; omega
          clear hx
          go_wp2_with fail
          go_quiet (fail)
          go_wp2_with fail
          go_ret
          refine ⟨ret_int ?_, drewN_trans hdi.out ⟨_, rfl⟩⟩
          rw [hend.out]

set_option maxRecDepth 100000 in
set_option maxHeartbeats 1000000 in
theorem rmatch_any (w : World) (s : ByteArray) (p : Nat) (hp : p < s.size) (hs : s.size < 1000000000) :
    Calls Tryz.prog 128 #[.string s, .int .i64 p] w fun e w' =>
      e = .returned (.tuple #[.int .i64 (matchP s.data.toList p).1, .int .i64 (matchP s.data.toList p).2]) ∧ ∃ n, w' = w.drewN n := by
  obtain ⟨m, hm⟩ : ∃ m, m = min p 4096 := ⟨_, rfl⟩
  have hm1 : m ≤ p := by omega
  have hm2 : m ≤ 4096 := by omega
  have hm3 : m = p ∨ m = 4096 := by omega
  have HM := Lib.hid hm
  have HM3 := Lib.hid hm3
  clear hm hm3
  have hmost : most s.data.toList p ≤ 258 := by unfold most; omega
  go_enter Tryz.func128, Tryz.ntmps128
  go_wp2_with fail
  go_loopw [6, 7, 8, 9] (fun vb va vd _ wr => ∃ b a d : Nat, vb = .int .i64 b ∧ va = .int .i64 a ∧ vd = .int .i64 ((d : Int) + 1) ∧ d ≤ m ∧ b ≤ 258 ∧ Hid (mtGo s.data.toList p d = (b, a)) ∧ Hid (∃ n, wr = w.drewN n)) (fun _ _ vd _ _ => m + 1 - (intOf vd).toNat)
  case atStart => exact ⟨0, 0, 0, rfl, rfl, rfl, Nat.zero_le _, by omega, rfl, ⟨0, rfl⟩⟩
  case round =>
    obtain ⟨b, a, d, rfl, rfl, rfl, hd, hb, hmt, hdr⟩ := hrel
    by_cases hdm : d < m
    · go_wp2_with fail
      have e1 : ((d : Int) + 1) = ((d + 1 : Nat) : Int) := by omega
      rw [e1]
      clear e1
      refine (rcommon_any _ s p (d + 1) hp (by omega) hs).mono ?_
      rintro e w1 ⟨rfl, n1, rfl⟩
      have hcm := cm_le s.data.toList p (p - (d + 1))
      have hstep : Hid (mtGo s.data.toList p (d + 1) = if b < cm s.data.toList p (p - (d + 1)) then (cm s.data.toList p (p - (d + 1)), d + 1) else (b, a)) := by
        show _ = _
        rw [mtGo, hmt.out]
      generalize cm s.data.toList p (p - (d + 1)) = c at *
      by_cases hbc : b < c
      · go_wp2_with fail
        go_roundw
        case rel =>
          refine ⟨c, d + 1, d + 1, rfl, by go_num, by go_num, by omega, by omega, ?_, drewN_trans hdr.out ⟨_, rfl⟩⟩
          show _ = _
          rw [hstep.out, if_pos hbc]
        case measure => simp [intOf]; omega
      · go_wp2_with fail
        go_roundw
        case rel =>
          refine ⟨b, a, d + 1, rfl, rfl, by go_num, by omega, by omega, ?_, drewN_trans hdr.out ⟨_, rfl⟩⟩
          show _ = _
          rw [hstep.out, if_neg hbc]
        case measure => simp [intOf]; omega
    · have hres : Hid (matchP s.data.toList p = norm3 (b, a)) := by
        show _ = _
        obtain rfl : d = m := by omega
        unfold matchP
        rw [← HM.out, hmt.out]
      have hx : (d : Int) + 1 ≤ 4096 → (p : Int) < (d : Int) + 1 := by have := HM3.out; omega
      by_cases h4 : d + 1 ≤ 4096
      · have hx' := hx (by omega)
        clear hx
        by_cases h3 : b < 3
        · go_wp2_with fail
          go_ret2
          rw [hres.out, norm3, if_pos h3]
          exact ⟨rfl, hdr.out⟩
        · go_wp2_with fail
          go_ret2
          rw [hres.out, norm3, if_neg h3]
          exact ⟨rfl, hdr.out⟩
      · have hg : decide ((d : Int) + 1 ≤ 4096) = false := by simp; omega
        clear hx
        by_cases h3 : b < 3
        · go_wp2_with fail
          go_ret2
          rw [hres.out, norm3, if_pos h3]
          exact ⟨rfl, hdr.out⟩
        · go_wp2_with fail
          go_ret2
          rw [hres.out, norm3, if_neg h3]
          exact ⟨rfl, hdr.out⟩
end Go.Proofs.YthbejefodelpkaaGreat
namespace Go.Proofs.YthbejefodelpkaaGreat
open Go.RowKit
set_option maxRecDepth 100000

set_option maxRecDepth 100000 in
set_option maxHeartbeats 1000000 in
theorem rfixed_any (s : ByteArray) (w : World) (hs : s.size ≤ maxLen) :
    Calls Tryz.prog 105 #[.string s] w fun e w' => e = .returned (.string ⟨(fixed (s.data.toList.take 1048576)).toArray⟩) ∧ Below w.heap.size w w' := by
  have hin := rinput_any s w hs
  have hz := inp_size s
  have hl := inp_list s
  generalize inp s = t at *
  have HL := Lib.hid hl
  have HI := Lib.hid hin
  clear hl hin
  have hz' : t.size < 1000000000 := by omega
  have hln : Hid (t.data.toList.length = t.size) := by show _ = _; simp
  go_enter Tryz.func105, Tryz.ntmps105
  go_wp2_with fail
  refine HI.out.mono ?_
  rintro e w1 ⟨rfl, rfl⟩
  clear HI
  go_wp2_with fail
  have hw0 := wr_new (w := w) (T := 134) rfl
  have hb0 : Below w.heap.size w (w.alloc (.cells #[.slice none 0 0, .int .i64 0] 134)) := (Below.refl _ _).alloc (Nat.le_refl _) _
  obtain ⟨g, hg⟩ : ∃ g, g = w.heap.size := ⟨_, rfl⟩
  rw [← hg] at hw0 hb0 ⊢
  have HG := Lib.hid hg
  clear hg
  generalize w.alloc (.cells #[.slice none 0 0, .int .i64 0] 134) = wa at hw0 hb0 ⊢
  refine (rnumber_any _ g g [] _ _ (by omega) (by omega) (by omega) hw0 (by simp)).mono ?_
  rintro e w1 ⟨rfl, hw1, hf1⟩
  go_wp2_with fail
  refine (rnumber_any _ g g _ _ _ (by omega) (by omega) (by omega) hw1 (by simp [numBits])).mono ?_
  rintro e w2 ⟨rfl, hw2, hf2⟩
  have hbel : Below g w w2 := hb0.trans ((hf1.trans hf2).below (by have := hb0.size; have := HG.out; omega))
  clear hw0 hw1 hf1 hf2 hb0
  go_wp2_with fail
  go_loopw [4, 5, 6, 7, 8, 9] (fun vp _ _ _ _ _ wr => ∃ (p : Nat) (bs : List Bool), vp = .int .i64 p ∧ p ≤ t.size ∧ Wr 134 wr g g bs ∧
      Hid (bs ++ fixedGo t.data.toList (t.data.toList.length - p) p = numBits 1 1 ++ numBits 1 2 ++ fixedGo t.data.toList t.data.toList.length 0) ∧ bs.length ≤ 3 + 29 * p ∧ Below g w wr) (fun vp _ _ _ _ _ _ => t.size - (intOf vp).toNat)
  case atStart => exact ⟨0, _, rfl, Nat.zero_le _, hw2, rfl, by simp [numBits], hbel⟩
  case round =>
    clear hw2 hbel
    obtain ⟨p, bs, rfl, hp, hw, hbs, hlen, hbel⟩ := hrel
    by_cases hlt : p < t.size
    · go_wp2_with fail
      refine (rmatch_any _ t p hlt hz').mono ?_
      rintro e w4 ⟨rfl, n4, hn4⟩
      have hw4 : Wr 134 w4 g g bs := by rw [hn4]; exact hw.drewN n4
      have hbel4 : Below g w w4 := by rw [hn4]; exact ⟨hbel.os, hbel.tape, hbel.output, hbel.size, hbel.block⟩
      clear hn4 hw hbel
      have hok := matchP_ok t.data.toList p
      have htk := tok_pos t.data.toList p (by rw [hln.out]; exact hlt)
      have htb := tok_bits t.data.toList p
      have hte : Hid (tok t.data.toList p = if (matchP t.data.toList p).1 = 0 then (symBits (at8 t.data.toList p).toNat, 1) else (matchBits (matchP t.data.toList p).1 (matchP t.data.toList p).2, (matchP t.data.toList p).1)) := rfl
      have hstep := fixedGo_step t.data.toList p (by rw [hln.out]; exact hlt)
      rw [hln.out] at htk hok
      have hbs' : Hid (bs ++ (tok t.data.toList p).1 ++ fixedGo t.data.toList (t.data.toList.length - (p + (tok t.data.toList p).2)) (p + (tok t.data.toList p).2) = numBits 1 1 ++ numBits 1 2 ++ fixedGo t.data.toList t.data.toList.length 0) := by
        show _ = _
        rw [← hbs.out, hstep, List.append_assoc]
      clear hstep hbs
      generalize matchP t.data.toList p = nd at *
      generalize tok t.data.toList p = tk at *
      obtain ⟨n, d⟩ := nd
      obtain ⟨tb, tn⟩ := tk
      simp only at hok htk htb hte hbs'
      have HOK := Lib.hid hok
      clear hok
      by_cases hn0 : n = 0
      · subst hn0
        have hte' := hte.out
        rw [if_pos rfl] at hte'
        injection hte' with h1 h2
        have H1 := Lib.hid h1
        obtain rfl : tn = 1 := h2
        clear hte h1
        go_wp2_with fail
        have hbt := (t[p]).toNat_lt
        refine (rsymbol_any _ g g bs _ (by rw [wrap64_byte']; omega) (by rw [wrap64_byte']; omega) hw4 (by omega)).mono ?_
        rintro e w5 ⟨rfl, hw5, hf5⟩
        rw [wrap64_byte', Int.toNat_natCast] at hw5
        have hw6 : Wr 134 w5 g g (bs ++ tb) := by
          rw [H1.out, at8, ← byte_at t p hlt]
          exact hw5
        clear hw5
        go_wp2_with fail
        go_roundw
        case rel => exact ⟨p + 1, bs ++ tb, by go_num, by omega, hw6, hbs', by rw [List.length_append]; omega, hbel4.trans (hf5.below (by have := hbel4.size; have := HG.out; omega))⟩
        case measure => simp [intOf]; omega
      · have hne : ((n : Int) == 0) = false := by simp; omega
        obtain ⟨o1, o2, o3, o4, o5, o6, _⟩ := HOK.out hn0
        have hte' := hte.out
        rw [if_neg hn0] at hte'
        injection hte' with h1 h2
        have H1 := Lib.hid h1
        obtain rfl : tn = n := h2
        clear hte h1 HOK
        obtain ⟨a1, a2, a3, a4, a5⟩ := lenSym_ok tn o1 o2
        obtain ⟨b1, b2, b3, b4⟩ := distSym_ok d o4 o5
        clear a4 b3
        go_wp2_with fail
        refine (rlenSym_any tn _ o2).mono ?_
        rintro e w5 ⟨rfl, rfl⟩
        go_wp2_with fail
        refine (rsymbol_any _ g g bs _ (by omega) (by omega) hw4 (by omega)).mono ?_
        rintro e w1 ⟨rfl, hw1, hf1⟩
        have l1 := symBits_length (lenSym tn).1
        rw [Int.toNat_natCast] at hw1
        go_wp2_with fail
        refine (rnumber_any _ g g _ _ _ (by omega) (by omega) (by omega) hw1 (by rw [List.length_append]; omega)).mono ?_
        rintro e w2 ⟨rfl, hw2, hf2⟩
        rw [Int.toNat_natCast] at hw2
        go_wp2_with fail
        refine (rdistSym_any d _ o4 o5).mono ?_
        rintro e w3 ⟨rfl, rfl⟩
        go_wp2_with fail
        refine (rcode_any _ g g _ _ _ (by omega) (by omega) (by omega) hw2 (by simp only [List.length_append, numBits_length]; omega)).mono ?_
        rintro e w3 ⟨rfl, hw3, hf3⟩
        rw [Int.toNat_natCast] at hw3
        go_wp2_with fail
        refine (rnumber_any _ g g _ _ _ (by omega) (by omega) (by omega) hw3 (by simp only [List.length_append, numBits_length, codeBits_length]; omega)).mono ?_
        rintro e w6 ⟨rfl, hw6, hf6⟩
        rw [Int.toNat_natCast] at hw6
        have hf := hf1.trans (hf2.trans (hf3.trans hf6))
        have hw7 : Wr 134 w6 g g (bs ++ tb) := by
          have e1 : ((tn : Int) - ((lenSym tn).2.1 : Int)).toNat = tn - (lenSym tn).2.1 := by omega
          have e2 : ((d : Int) - ((distSym d).2.1 : Int)).toNat = d - (distSym d).2.1 := by omega
          rw [e1, e2] at hw6
          rw [H1.out]
          simp only [List.append_assoc] at hw6
          simp only [matchBits, List.append_assoc]
          exact hw6
        clear hw1 hw2 hw3 hw6 hf1 hf2 hf3 hf6 hw4
        go_wp2_with fail
        go_roundw
        case rel => exact ⟨p + tn, bs ++ tb, by go_num, by omega, hw7, hbs', by rw [List.length_append]; omega, hbel4.trans (hf.below (by have := hbel4.size; have := HG.out; omega))⟩
        case measure => simp [intOf]; omega
    · go_wp2_with fail
      refine (rsymbol_any _ g g bs _ (by omega) (by omega) hw (by omega)).mono ?_
      rintro e w5 ⟨rfl, ⟨v5, hb5, hr5, _⟩, hf5⟩
      have hbel5 := hbel.trans (hf5.below (by have := hbel.size; have := HG.out; omega))
      have hc5 := hb5.cell 0
      simp at hc5
      have hcv := run_str_of Tryz.underlying54 Tryz.underlying5 Tryz.underlying9 hr5
      clear hr5
      have hfin : Hid (pack (bs ++ symBits 256) = fixed (s.data.toList.take 1048576)) := by
        show _ = _
        have h1 := hbs.out
        rw [fixedGo_end _ _ (by rw [hln.out]; omega), List.append_nil] at h1
        rw [h1, fixed, fixedBits, HL.out]
      go_wp2
      go_ret
      rw [HG.out] at hbel5
      refine ⟨?_, hbel5⟩
      rw [← hfin.out]
      rfl
end Go.Proofs.YthbejefodelpkaaGreat
namespace Go.Proofs.YthbejefodelpkaaGreat
open Go.RowKit
set_option maxRecDepth 100000

theorem brow_empty (w : World) (e : TypeId) : BRow (w.alloc (.cells #[] e)) w.heap.size e (.slice (some ⟨w.heap.size, 0, none⟩) 0 0) [] :=
  World.ownsRow_made w #[] 0 (Nat.le_refl _) (Nat.zero_le _) rfl

theorem take_snoc (s : ByteArray) (k : Nat) (h : k < s.size) : s.data.toList.take (k + 1) = s.data.toList.take k ++ [s[k]] := by
  rw [List.take_succ_eq_append_getElem (by simpa using h)]; rfl

set_option maxRecDepth 100000 in
set_option maxHeartbeats 2000000 in
theorem rstored_any (s : ByteArray) (w : World) (hs : s.size ≤ maxLen) :
    Calls Tryz.prog 106 #[.string s] w fun e w' => e = .returned (.string ⟨(stored (s.data.toList.take 1048576)).toArray⟩) ∧ Below w.heap.size w w' := by
  have hin := rinput_any s w hs
  have hz := inp_size s
  have hl := inp_list s
  generalize inp s = t at *
  have HL := Lib.hid hl
  have HI := Lib.hid hin
  clear hl hin
  go_enter Tryz.func106, Tryz.ntmps106
  go_wp2_with fail
  refine HI.out.mono ?_
  rintro e w1 ⟨rfl, rfl⟩
  clear HI
  go_wp2_with fail
  have hr0 := brow_empty w 5
  have hb0 : Below w.heap.size w (w.alloc (.cells #[] 5)) := (Below.refl _ _).alloc (Nat.le_refl _) _
  obtain ⟨B, hB⟩ : ∃ B, B = w.heap.size := ⟨_, rfl⟩
  rw [← hB] at hr0 hb0 ⊢
  have hs0 : B ≤ (w.alloc (.cells #[] 5)).heap.size := by simp; omega
  have HB := Lib.hid hB
  clear hB
  go_loopw [0, 3, 4, 5, 6] (fun vt v _ _ _ wr => ∃ (r : ByteArray) (done : List UInt8), vt = .string r ∧ BRow wr B 5 v done ∧ done.length + 2 * r.size ≤ 20000000 ∧ Hid (done ++ stored r.data.toList = stored (s.data.toList.take 1048576)) ∧ Below B w wr ∧ B ≤ wr.heap.size) (fun vt _ _ _ _ _ => strLen vt)
  case atStart => exact ⟨t, [], rfl, hr0, by simp; omega, by show _ = _; rw [← HL.out]; rfl, hb0, hs0⟩
  case round =>
    obtain ⟨r, done, rfl, hown, hlen, hst, hbel, hsz⟩ := hrel
    clear hr0 hb0 hs0
    obtain ⟨n, hn⟩ : ∃ n, n = min r.size 65535 := ⟨_, rfl⟩
    have hn1 : n ≤ r.size := by omega
    have hn2 : n ≤ 65535 := by omega
    go_upto_region 3 with (fail)
    go_cut [4] (fun v wx => v = .int .i64 n ∧ wx = wr)
    case first =>
      go_wp2_with fail
      all_goals
        go_meet
        refine ⟨?_, rfl⟩
        congr 1
        omega
    case rest =>
      obtain ⟨rfl, rfl⟩ := hcut
      obtain ⟨la, hla⟩ : ∃ la, la = if r.size ≤ 65535 then 1 else 0 := ⟨_, rfl⟩
      have hla1 : la ≤ 1 := by rw [hla]; split <;> omega
      have HLA := Lib.hid hla
      have HN := Lib.hid hn
      clear hla hn
      obtain ⟨wr, rfl⟩ : ∃ wr : World, wr = wc := ⟨_, rfl⟩
      go_upto_if 16 with (fail)
      go_cut [5] (fun v wx => v = .int .u8 la ∧ wx = wr)
      case first =>
        by_cases hr : r.size ≤ 65535
        · have e1 : ((n : Int) == (r.size : Int)) = true := by have := HN.out; simp; omega
          have e2 : Hid (la = 1) := by show _ = _; rw [HLA.out, if_pos hr]
          go_wp2_with fail
          go_meet
          exact ⟨by rw [e2.out]; rfl, rfl⟩
        · have e1 : ((n : Int) == (r.size : Int)) = false := by have := HN.out; simp; omega
          have e2 : Hid (la = 0) := by show _ = _; rw [HLA.out, if_neg hr]
          go_wp2_with fail
          go_meet
          exact ⟨by rw [e2.out]; rfl, rfl⟩
      case rest =>
        obtain ⟨rfl, rfl⟩ := hcut
        go_wp2_with (at_builtin; refine wpList_app del_u8 hown hsz rfl rfl rfl (m := 4) rfl (by simp [Value.oneCell']) rfl (by omega) (by unfold maxLen; omega) ?_)
        intro r1 cap1 w1 ho1 hg1 _
        have hown1 := brow_more ho1 (hdr la n) (hdr_cells la la n rfl (by omega) (by omega)) rfl
        obtain ⟨hbel1, hsz1⟩ := below_app hbel hsz hown hg1
        have hl1 : (done ++ hdr la n).length ≤ done.length + 5 := by simp [hdr]
        clear ho1 hg1 hown hbel hsz
        generalize Value.slice (some { block := r1, off := 0 }) (done.length + (4 + 1)) cap1 = v1 at *
        go_wp2_with fail
        obtain ⟨wo, rfl⟩ : ∃ wo : World, wo = w1 := ⟨_, rfl⟩
        go_loopw [3, 6] (fun v vi wi => ∃ (k : Nat) (acc : List UInt8), vi = .int .i64 k ∧ k ≤ n ∧ BRow wi B 5 v acc ∧ Hid (acc = done ++ hdr la n ++ r.data.toList.take k) ∧ Below B w wi ∧ B ≤ wi.heap.size) (fun _ vi _ => n - (intOf vi).toNat)
        case atStart => exact ⟨0, _, rfl, Nat.zero_le _, hown1, by show _ = _; simp, hbel1, hsz1⟩
        case round =>
          clear hown1 hbel1 hsz1
          obtain ⟨k, acc, rfl, hk, hown, hacc, hbel, hsz⟩ := hrel
          have hl2 : acc.length ≤ done.length + 5 + k := by rw [hacc.out]; simp [hdr]; omega
          by_cases hkn : k < n
          · have hkr : k < r.size := by omega
            go_wp2_with (at_builtin; refine wpList_app del_u8 hown hsz rfl rfl rfl (m := 0) rfl (by simp [Value.oneCell']) rfl (by omega) (by unfold maxLen; omega) ?_)
            intro r2 cap2 w2 ho2 hg2 _
            have hown2 := brow_more ho2 [r[k]] rfl (by simp)
            obtain ⟨hbel2, hsz2⟩ := below_app hbel hsz hown hg2
            clear ho2 hg2 hown hbel hsz
            go_wp2_with fail
            go_roundw
            case rel => exact ⟨k + 1, _, by go_num, by omega, hown2, by show _ = _; rw [hacc.out, take_snoc r k hkr, List.append_assoc (done ++ hdr la n)], hbel2, hsz2⟩
            case measure => simp [intOf]; omega
          · obtain rfl : k = n := by omega
            by_cases hr : r.size ≤ 65535
            · have e2 : la = 1 := by rw [HLA.out, if_pos hr]
              subst e2
              have hcv := run_str_of Tryz.underlying54 Tryz.underlying5 Tryz.underlying9 hown
              have hfin : Hid (acc = stored (s.data.toList.take 1048576)) := by
                show _ = _
                have hk' : k = r.size := by have := HN.out; omega
                rw [hacc.out, ← hst.out, stored, if_pos (by simpa using hr), hk', List.take_of_length_le (by simp)]
                simp
              rw [hfin.out] at hcv
              clear hown
              go_wp2_with fail
              go_ret
              rw [HB.out] at hbel
              exact ⟨rfl, hbel⟩
            · have e2 : la = 0 := by rw [HLA.out, if_neg hr]
              subst e2
              have hk' : k = 65535 := by have := HN.out; omega
              subst hk'
              go_wp2_with fail
              go_roundw
              case rel =>
                refine ⟨_, _, rfl, hown, ?_, ?_, hbel, hsz⟩
                · rw [ByteArray.size_extract]; omega
                · show _ = _
                  have h := hst.out
                  rw [stored, if_neg (by simp; omega)] at h
                  rw [hacc.out, ← h, extract_list]
                  simp [List.take_of_length_le]
              case measure => simp [strLen]; omega
end Go.Proofs.YthbejefodelpkaaGreat
namespace Go.Proofs.YthbejefodelpkaaGreat
open Go.RowKit
set_option maxRecDepth 100000

def best (l : List UInt8) : List UInt8 := if (fixed l).length < (stored l).length then fixed l else stored l

theorem ex_a : fixed ([97] : List UInt8) = [75, 4, 0] := by
  have h : fixedBits [97] = [true, true, false, true, false, false, true, false, false, false, true, false, false, false, false, false, false, false] := by decide +kernel
  rw [fixed, h]
  simp [pack, byteOf]
theorem ex_nil : fixed ([] : List UInt8) = [3, 0] := by
  have h : fixedBits [] = [true, true, false, false, false, false, false, false, false, false] := by decide +kernel
  rw [fixed, h]
  simp [pack, byteOf]
theorem ex_st : stored ([] : List UInt8) = [1, 0, 0, 255, 255] := by
  rw [stored]; decide
theorem ex_st_a : stored ([97] : List UInt8) = [1, 1, 0, 254, 255, 97] := by
  rw [stored]; decide

theorem fixed_a (w : World) : Calls Tryz.prog 100 #[.string ⟨#[97]⟩] w fun e w' => e = .returned (.string ⟨#[75, 4, 0]⟩) ∧ Below w.heap.size w w' := by
  have h := fixed_any ⟨#[97]⟩ w (by decide)
  have e : List.take 1048576 (⟨#[97]⟩ : ByteArray).data.toList = [97] := rfl
  rw [e, ex_a] at h
  exact h
theorem fixed_nil (w : World) : Calls Tryz.prog 100 #[.string ⟨#[]⟩] w fun e w' => e = .returned (.string ⟨#[3, 0]⟩) ∧ Below w.heap.size w w' := by
  have h := fixed_any ⟨#[]⟩ w (by decide)
  have e : List.take 1048576 (⟨#[]⟩ : ByteArray).data.toList = [] := rfl
  rw [e, ex_nil] at h
  exact h
theorem stored_nil (w : World) : Calls Tryz.prog 101 #[.string ⟨#[]⟩] w fun e w' => e = .returned (.string ⟨#[1, 0, 0, 255, 255]⟩) ∧ Below w.heap.size w w' := by
  have h := dstored_any ⟨#[]⟩ w (by decide)
  have e : List.take 1048576 (⟨#[]⟩ : ByteArray).data.toList = [] := rfl
  rw [e, ex_st] at h
  exact h

set_option maxHeartbeats 400000 in
theorem best_any (s : ByteArray) (w : World) (hs : s.size ≤ maxLen) :
    Calls Tryz.prog 73 #[.string s] w fun e w' => e = .returned (.string ⟨(best (s.data.toList.take 1048576)).toArray⟩) ∧ Below w.heap.size w w' := by
  have h1 := fun w => fixed_any s w hs
  have h2 := fun w => dstored_any s w hs
  have hb : Hid (best (s.data.toList.take 1048576) = if (fixed (s.data.toList.take 1048576)).length < (stored (s.data.toList.take 1048576)).length then fixed (s.data.toList.take 1048576) else stored (s.data.toList.take 1048576)) := rfl
  generalize fixed (s.data.toList.take 1048576) = a at *
  generalize stored (s.data.toList.take 1048576) = b at *
  have H1 := Lib.hid h1
  have H2 := Lib.hid h2
  clear h1 h2
  go_enter Tryz.func73, Tryz.ntmps73
  go_wp2_with fail
  refine (H1.out _).mono ?_
  rintro e w1 ⟨rfl, hb1⟩
  go_wp2_with fail
  refine (H2.out _).mono ?_
  rintro e w2 ⟨rfl, hb2⟩
  by_cases hlt : a.length < b.length
  · go_wp2_with fail
    go_ret
    rw [hb.out, if_pos hlt]
    exact ⟨rfl, bthen hb1 hb2⟩
  · go_wp2_with fail
    go_ret
    rw [hb.out, if_neg hlt]
    exact ⟨rfl, bthen hb1 hb2⟩
theorem best_a (w : World) : Calls Tryz.prog 73 #[.string ⟨#[97]⟩] w fun e w' => e = .returned (.string ⟨#[75, 4, 0]⟩) ∧ Below w.heap.size w w' := by
  have h := best_any ⟨#[97]⟩ w (by decide)
  have e : List.take 1048576 (⟨#[97]⟩ : ByteArray).data.toList = [97] := rfl
  have e2 : best [97] = [75, 4, 0] := by rw [best, ex_a, ex_st_a]; decide
  rw [e, e2] at h
  exact h

end Go.Proofs.YthbejefodelpkaaGreat
namespace Go.Proofs.YthbejefodelpkaaGreat
open Go.RowKit
set_option maxRecDepth 100000

def adlStep (x : Nat × Nat) (c : UInt8) : Nat × Nat := ((x.1 + c.toNat) % 65521, (x.2 + (x.1 + c.toNat) % 65521) % 65521)
def adlGo (l : List UInt8) : Nat × Nat := l.foldl adlStep (1, 0)
/-- The Adler-32 checksum. -/
def adler (l : List UInt8) : Nat := (adlGo l).2 * 65536 + (adlGo l).1

theorem adlGo_lt (l : List UInt8) : (adlGo l).1 < 65521 ∧ (adlGo l).2 < 65521 := by
  have key : ∀ (l : List UInt8) (x : Nat × Nat), x.1 < 65521 → x.2 < 65521 → (l.foldl adlStep x).1 < 65521 ∧ (l.foldl adlStep x).2 < 65521 := by
    intro l
    induction l with
    | nil => exact fun x h1 h2 => ⟨h1, h2⟩
    | cons c t ih => exact fun x _ _ => ih _ (Nat.mod_lt _ (by decide)) (Nat.mod_lt _ (by decide))
  exact key l (1, 0) (by decide) (by decide)
theorem adler_lt (l : List UInt8) : adler l < 4294967296 := by
  have := adlGo_lt l; unfold adler; omega
theorem adlGo_snoc (s : ByteArray) (k : Nat) (h : k < s.size) : adlGo (s.data.toList.take (k + 1)) = adlStep (adlGo (s.data.toList.take k)) s[k] := by
  have : s.data.toList.take (k + 1) = s.data.toList.take k ++ [s[k]] := by
    rw [List.take_succ_eq_append_getElem (by simpa using h)]; rfl
  rw [this, adlGo, List.foldl_append]; rfl

theorem or_adl (a b : Nat) (ha : a < 65536) (hb : b < 65536) : bits .or .u32 ((b : Int) * 65536) (a : Int) = ((b * 65536 + a : Nat) : Int) := by
  have e : (b : Int) * 65536 = ((b * 65536 : Nat) : Int) := by omega
  rw [e]
  have h1 : ∀ x : Nat, x < 4294967296 → (BitVec.ofInt 32 (x : Int)).toNat = x := fun x hx => by
    rw [BitVec.ofInt_natCast, BitVec.toNat_ofNat]; exact Nat.mod_eq_of_lt (by omega)
  show IntKind.u32.wrap ((BitVec.ofInt 32 ((b * 65536 : Nat) : Int) ||| BitVec.ofInt 32 (a : Int)).toNat : Int) = _
  rw [BitVec.toNat_or, h1 _ (by omega), h1 _ (by omega)]
  have h2 : b * 65536 ||| a = b * 65536 + a := by
    have : b * 65536 = b <<< 16 := by rw [Nat.shiftLeft_eq]
    rw [this, Nat.shiftLeft_add_eq_or_of_lt (by simpa using ha)]
  rw [h2, IntKind.wrap_u32]
  omega

set_option maxRecDepth 100000 in
set_option maxHeartbeats 1000000 in
theorem adler_any (s : ByteArray) (w : World) (hs : s.size ≤ maxLen) :
    Calls Tryz.prog 72 #[.string s] w fun e w' => e = .returned (.int .u32 (adler s.data.toList)) ∧ w = w' := by
  unfold maxLen at hs
  go_enter Tryz.func72, Tryz.ntmps72
  go_wp2
  go_loop [3, 4, 5, 8] (fun va vb _ vi => ∃ k a b : Nat, vi = .int .i64 k ∧ va = .int .u32 a ∧ vb = .int .u32 b ∧ k ≤ s.size ∧ a < 65521 ∧ b < 65521 ∧ Hid (adlGo (s.data.toList.take k) = (a, b))) (fun _ _ _ vi => s.size - (intOf vi).toNat)
  case atStart => exact ⟨0, 1, 0, rfl, rfl, rfl, Nat.zero_le _, by omega, by omega, rfl⟩
  case round =>
    obtain ⟨k, a, b, rfl, rfl, rfl, hk, ha, hb, hg⟩ := hrel
    by_cases hlt : k < s.size
    · have hst := adlGo_snoc s k hlt
      rw [hg.out] at hst
      have hc := (s[k]).toNat_lt
      have HS := Lib.hid hst
      clear hst
      go_wp2
      go_round
      case rel =>
        refine ⟨k + 1, (a + (s[k]).toNat) % 65521, (b + (a + (s[k]).toNat) % 65521) % 65521, by go_num, by go_num, by go_num, by omega, by omega, by omega, ?_⟩
        show _ = _
        rw [HS.out]; rfl
      case measure => simp [intOf]; omega
    · have hfin : Hid (adler s.data.toList = b * 65536 + a) := by
        show _ = _
        have := hg.out
        rw [List.take_of_length_le (by simp; omega)] at this
        rw [adler, this]
      have hor := or_adl a b (by omega) (by omega)
      have HOR := Lib.hid hor
      clear hor
      go_wp2
      go_ret
      refine ⟨ret_int ?_, rfl⟩
      rw [hfin.out, ← HOR.out]
set_option maxRecDepth 100000 in
set_option maxHeartbeats 1000000 in
theorem radler_any (s : ByteArray) (w : World) (hs : s.size ≤ maxLen) :
    Calls Tryz.prog 80 #[.string s] w fun e w' => e = .returned (.int .u32 (adler s.data.toList)) ∧ w = w' := by
  unfold maxLen at hs
  go_enter Tryz.func80, Tryz.ntmps80
  go_wp2
  go_loop [3, 4, 5] (fun va vb vi => ∃ k a b : Nat, vi = .int .i64 k ∧ va = .int .u32 a ∧ vb = .int .u32 b ∧ k ≤ s.size ∧ a < 65521 ∧ b < 65521 ∧ Hid (adlGo (s.data.toList.take k) = (a, b))) (fun _ _ vi => s.size - (intOf vi).toNat)
  case atStart => exact ⟨0, 1, 0, rfl, rfl, rfl, Nat.zero_le _, by omega, by omega, rfl⟩
  case round =>
    obtain ⟨k, a, b, rfl, rfl, rfl, hk, ha, hb, hg⟩ := hrel
    by_cases hlt : k < s.size
    · have hst := adlGo_snoc s k hlt
      rw [hg.out] at hst
      have hc := (s[k]).toNat_lt
      have HS := Lib.hid hst
      clear hst
      go_wp2
      go_round
      case rel =>
        refine ⟨k + 1, (a + (s[k]).toNat) % 65521, (b + (a + (s[k]).toNat) % 65521) % 65521, by go_num, by go_num, by go_num, by omega, by omega, by omega, ?_⟩
        show _ = _
        rw [HS.out]; rfl
      case measure => simp [intOf]; omega
    · have hfin : Hid (adler s.data.toList = b * 65536 + a) := by
        show _ = _
        have := hg.out
        rw [List.take_of_length_le (by simp; omega)] at this
        rw [adler, this]
      go_wp2
      go_ret
      refine ⟨ret_int ?_, rfl⟩
      rw [hfin.out]; omega
end Go.Proofs.YthbejefodelpkaaGreat
namespace Go.Proofs.YthbejefodelpkaaGreat
open Go.RowKit
set_option maxRecDepth 100000

/-- A number in four bytes, the most significant one first. -/
def be4 (n : Nat) : List UInt8 := [UInt8.ofNat (n / 16777216), UInt8.ofNat (n / 65536), UInt8.ofNat (n / 256), UInt8.ofNat n]
def zlibP (l : List UInt8) : List UInt8 := [120, 1] ++ best l ++ be4 (adler l)

/-- 'string([]byte{..})' of the four bytes of a number. -/
theorem conv4 (x : Nat) (hx : x < 4294967296) (W : World) (b : Nat) (h0 : W.cell? ⟨b, 0, none⟩ = some (.int .u8 ((x : Int) / 16777216))) (h1 : W.cell? ⟨b, 1, none⟩ = some (.int .u8 ((x : Int) / 65536 % 256)))
    (h2 : W.cell? ⟨b, 2, none⟩ = some (.int .u8 ((x : Int) / 256 % 256))) (h3 : W.cell? ⟨b, 3, none⟩ = some (.int .u8 ((x : Int) % 256))) :
    (convert 54 9 (.slice (some ⟨b, 0, none⟩) 4 4)).run Tryz.prog W = .ok (.string ⟨(be4 x).toArray⟩) W := by
  refine run_convert_bytes_back W 54 9 5 ⟨b, 0, none⟩ 4 (be4 x) Tryz.underlying54 Tryz.underlying5 Tryz.underlying9 fun j hj => ?_
  rw [Addr.add_lit, Nat.zero_add]
  have hj' : j < 4 := hj
  match j, hj' with
  | 0, _ => rw [h0]; exact congrArg some (cell_byte _ _ (by omega))
  | 1, _ => rw [h1]; exact congrArg some (cell_byte _ _ (by omega))
  | 2, _ => rw [h2]; exact congrArg some (cell_byte _ _ (by omega))
  | 3, _ => rw [h3]; exact congrArg some (cell_byte _ _ (by omega))

theorem stored_length (l : List UInt8) : (stored l).length = l.length + 5 * max 1 ((l.length + 65534) / 65535) := by
  induction h : l.length using Nat.strongRecOn generalizing l with
  | _ n ih =>
    subst h
    rw [stored]
    by_cases hl : l.length ≤ 65535
    · rw [if_pos hl]
      simp [hdr]
      omega
    · rw [if_neg hl, List.length_append, List.length_append, ih (l.drop 65535).length (by simp; omega) _ rfl]
      simp [hdr]
      omega
theorem best_length (l : List UInt8) : (best l).length ≤ (stored l).length := by
  unfold best
  split <;> omega

set_option maxRecDepth 100000 in
set_option maxHeartbeats 1000000 in
theorem zlib_any (s : ByteArray) (w : World) (hs : s.size ≤ maxLen) :
    Calls Tryz.prog 47 #[.string s] w fun e w' => e = .returned (.string ⟨(zlibP (s.data.toList.take 1048576)).toArray⟩) ∧ Below w.heap.size w w' := by
  have hin := input_any s w hs
  have hz := inp_size s
  have hl := inp_list s
  change Calls _ _ _ _ (fun e w' => e = .returned (.string (inp s)) ∧ w = w') at hin
  generalize inp s = t at *
  have HL := Lib.hid hl
  have HI := Lib.hid hin
  have hmx : t.size ≤ maxLen := by unfold maxLen; omega
  have had := adler_lt t.data.toList
  have hza : Hid (zlibP (s.data.toList.take 1048576) = [120, 1] ++ best t.data.toList ++ be4 (adler t.data.toList)) := by show _ = _; rw [zlibP, HL.out]
  have hA := adler_any t w hmx
  have hB := fun w => best_any t w hmx
  rw [List.take_of_length_le (by simpa using hz)] at hB
  generalize adler t.data.toList = x at *
  have hy : (best t.data.toList).length ≤ 3000000 := by
    have h1 := best_length t.data.toList
    have h2 := stored_length t.data.toList
    have h3 : t.data.toList.length = t.size := by simp
    omega
  generalize best t.data.toList = y at *
  have HA := Lib.hid hA
  have HB := Lib.hid hB
  clear hl hin hA hB
  go_enter Tryz.func47, Tryz.ntmps47
  go_wp2_with fail
  refine HI.out.mono ?_
  rintro e w1 ⟨rfl, rfl⟩
  clear HI
  go_wp2_with fail
  refine HA.out.mono ?_
  rintro e w1 ⟨rfl, rfl⟩
  clear HA
  go_wp2_with fail
  have hcv := conv4 x had
  have u0 : IntKind.u8.wrap ((x : Int) / 16777216) = (x : Int) / 16777216 := by rw [IntKind.wrap_u8]; omega
  have u1 : IntKind.u8.wrap ((x : Int) / 65536) = (x : Int) / 65536 % 256 := by rw [IntKind.wrap_u8]
  have u2 : IntKind.u8.wrap ((x : Int) / 256) = (x : Int) / 256 % 256 := by rw [IntKind.wrap_u8]
  have u3 : IntKind.u8.wrap (x : Int) = (x : Int) % 256 := by rw [IntKind.wrap_u8]
  generalize hbe : be4 x = z at *
  have hz4 : z.length = 4 := by rw [← hbe]; rfl
  have HBE := Lib.hid hbe
  clear hbe
  go_region_with (go_at_call 73; refine (HB.out _).mono ?_; rintro e w9 ⟨rfl, hb9⟩; obtain ⟨hcA, hfA⟩ := bcell hb9)
  all_goals
    clear u0 u1 u2 u3 hcv
    go_wp2_with fail
    go_ret
    refine ⟨?_, ?_⟩
    · rw [hza.out]
      exact congrArg Ending.returned (congrArg Value.string (ByteArray.ext (by simp)))
    · first | exact below_drew_alloc hb9 _ | exact below_alloc_drew hb9

set_option maxHeartbeats 400000 in
theorem rbest_any (s : ByteArray) (w : World) (hs : s.size ≤ maxLen) :
    Calls Tryz.prog 82 #[.string s] w fun e w' => e = .returned (.string ⟨(best (s.data.toList.take 1048576)).toArray⟩) ∧ Below w.heap.size w w' := by
  have h1 := fun w => rfixed_any s w hs
  have h2 := fun w => rstored_any s w hs
  have hb : Hid (best (s.data.toList.take 1048576) = if (fixed (s.data.toList.take 1048576)).length < (stored (s.data.toList.take 1048576)).length then fixed (s.data.toList.take 1048576) else stored (s.data.toList.take 1048576)) := rfl
  generalize fixed (s.data.toList.take 1048576) = a at *
  generalize stored (s.data.toList.take 1048576) = b at *
  have H1 := Lib.hid h1
  have H2 := Lib.hid h2
  clear h1 h2
  go_enter Tryz.func82, Tryz.ntmps82
  go_wp2_with fail
  refine (H1.out _).mono ?_
  rintro e w1 ⟨rfl, hb1⟩
  go_wp2_with fail
  refine (H2.out _).mono ?_
  rintro e w2 ⟨rfl, hb2⟩
  by_cases hlt : a.length < b.length
  · go_wp2_with fail
    go_ret
    rw [hb.out, if_pos hlt]
    exact ⟨rfl, bthen hb1 hb2⟩
  · go_wp2_with fail
    go_ret
    rw [hb.out, if_neg hlt]
    exact ⟨rfl, bthen hb1 hb2⟩

set_option maxRecDepth 100000 in
set_option maxHeartbeats 1000000 in
theorem rzlib_any (s : ByteArray) (w : World) (hs : s.size ≤ maxLen) :
    Calls Tryz.prog 54 #[.string s] w fun e w' => e = .returned (.string ⟨(zlibP (s.data.toList.take 1048576)).toArray⟩) ∧ Below w.heap.size w w' := by
  have hin := rinput_any s w hs
  have hz := inp_size s
  have hl := inp_list s
  generalize inp s = t at *
  have HL := Lib.hid hl
  have HI := Lib.hid hin
  have hmx : t.size ≤ maxLen := by unfold maxLen; omega
  have had := adler_lt t.data.toList
  have hza : Hid (zlibP (s.data.toList.take 1048576) = [120, 1] ++ best t.data.toList ++ be4 (adler t.data.toList)) := by show _ = _; rw [zlibP, HL.out]
  have hA := radler_any t w hmx
  have hB := fun w => rbest_any s w hs
  rw [← HL.out] at hB
  generalize adler t.data.toList = x at *
  have hy : (best t.data.toList).length ≤ 3000000 := by
    have h1 := best_length t.data.toList
    have h2 := stored_length t.data.toList
    have h3 : t.data.toList.length = t.size := by simp
    omega
  generalize best t.data.toList = y at *
  have HA := Lib.hid hA
  have HB := Lib.hid hB
  clear hl hin hA hB
  go_enter Tryz.func54, Tryz.ntmps54
  go_wp2_with fail
  refine HI.out.mono ?_
  rintro e w1 ⟨rfl, rfl⟩
  clear HI
  go_wp2_with fail
  refine HA.out.mono ?_
  rintro e w1 ⟨rfl, rfl⟩
  clear HA
  go_wp2_with fail
  have hcv := conv4 x had
  have u0 : IntKind.u8.wrap ((x : Int) / 16777216) = (x : Int) / 16777216 := by rw [IntKind.wrap_u8]; omega
  have u1 : IntKind.u8.wrap ((x : Int) / 65536) = (x : Int) / 65536 % 256 := by rw [IntKind.wrap_u8]
  have u2 : IntKind.u8.wrap ((x : Int) / 256) = (x : Int) / 256 % 256 := by rw [IntKind.wrap_u8]
  have u3 : IntKind.u8.wrap (x : Int) = (x : Int) % 256 := by rw [IntKind.wrap_u8]
  generalize hbe : be4 x = z at *
  have hz4 : z.length = 4 := by rw [← hbe]; rfl
  have HBE := Lib.hid hbe
  clear hbe
  go_region_with (go_at_call 82; refine (HB.out _).mono ?_; rintro e w9 ⟨rfl, hb9⟩; obtain ⟨hcA, hfA⟩ := bcell hb9)
  all_goals
    clear u0 u1 u2 u3 hcv
    go_wp2_with fail
    go_ret
    refine ⟨?_, ?_⟩
    · rw [hza.out]
      exact congrArg Ending.returned (congrArg Value.string (ByteArray.ext (by simp)))
    · first | exact below_drew_alloc hb9 _ | exact below_alloc_drew hb9

end Go.Proofs.YthbejefodelpkaaGreat
