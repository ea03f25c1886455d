/-
  Walk: path.Parse: the path of a text, or the place and the error.
-/
import Derived.Test.YtgjbelcnkmcbiaaDoorSp2
import Derived.OwnWalkIn
import Derived.Test.YtgjbelcnkmcbiaaDoorRq
import Derived.Test.YtgjbelcnkmcbiaaDoorQk
namespace Go.Proofs.YtgjbelcnkmcbiaaDoor
open Go.RowKit Go.Shelf
attribute [local go_sem] Oper.semAt_some

variable {P : Program} {w0 : World}
/-- 'append(out, c1, .., cm)' inside a fence: the new cells lie in the block that the statement has just laid. -/
theorem wpListIn_app {F : Fence} {N : Nat} {ops : Array Oper} {rest : List Oper} {o : Oper} {a : Act} {Q : Exit → Act → World → Prop} {s x : Operand} {t e : TypeId} {z : Value} {size bytes : Nat}
    (hE : Elem P t e z size bytes) {base : Nat} {v : Value} {n : Nat} {xs : List Value} (hown : w0.ownsRow base e size v n xs) (hbase : base ≤ w0.heap.size)
    (hgd : o.guard = none) (ho : o.op = .call { callee := .builtin .append, args := #[s, x], argTypes := #[t, t] }) (hs : a.eval s = v)
    {cs : Array Value} {m : Nat} (hm : cs.size = (m + 1) * size) (h1 : ∀ u ∈ cs.toList, u.oneCell' = true) (hx : a.eval x = .slice (some ⟨w0.heap.size, 0, none⟩) (m + 1) (m + 1))
    (hlen : (n + (m + 1)) * bytes ≤ 140737488355328) (h63 : n + (m + 1) ≤ maxLen)
    (h : ∀ v' w', w'.ownsRow base e size v' (n + (m + 1)) (xs ++ cs.toList) → (w0.alloc (.cells cs e)).grownBy w' v.ownBlock →
      wpListIn F N P ops Q rest (a.put o.dst v') w') : wpListIn F N P ops Q (o :: rest) a (w0.alloc (.cells cs e)) := by
  obtain ⟨ht, ⟨i, hi, hz, hsz, hby⟩, hzs, hp⟩ := hE
  refine wpListIn_append_own _ hgd s x t ho base e i z size bytes ht hi hz hsz hby hzs hp v n xs hs (hown.alloc _) ⟨w0.heap.size, 0, none⟩ (m + 1) (m + 1) cs.toList hx (by simpa using hm) (World.news_of_block (Blk.new w0 e cs)) h1 h63 hlen (by simp; omega) ?_
  intro v' w' h1 h2 _
  exact h v' w' h1 h2

theorem wrap_nat (n : Nat) (h : n ≤ 1048578) : wrap64 (n : Int) = n := wrap64_of _ (by omega)
theorem lt_two {m : Nat} (h : m < 2) : m = 0 ∨ m = 1 := by omega
theorem tdiv2 (r q : Nat) (h : r / 2 = q) : (r : Int).tdiv 2 = (q : Int) := by subst h; rfl
theorem tmod2 (r q : Nat) (h : r % 2 = q) : (r : Int).tmod 2 = (q : Int) := by subst h; rfl
theorem below_putObj {k : Nat} {w W : World} {D : Nat} (o : Obj) (hb : Below k w W) (hD : k ≤ D) : Below k w (W.putObj D o) :=
  hb.trans ⟨rfl, rfl, rfl, by simp [World.putObj], fun j hj => World.putObj_heap_other (by omega)⟩
theorem blk_putObj {W : World} {j D : Nat} {t : TypeId} {cs : Array Value} (o : Obj) (hb : Blk W j t cs) (hD : j ≠ D) : Blk (W.putObj D o) j t cs := (World.putObj_heap_other (by omega)).trans hb
/-- The results' boxes at the end. -/
structure PE (k : Nat) (w : World) (r0 : Value) (r1 r2 : Int) (D : Nat) (W : World) : Prop where
  c0 : (W.putObj D (.deferred none)).cell? ⟨k, 0, none⟩ = some r0
  c1 : (W.putObj D (.deferred none)).cell? ⟨k + 1, 0, none⟩ = some (.int .i64 r1)
  c2 : (W.putObj D (.deferred none)).cell? ⟨k + 2, 0, none⟩ = some (.int .i64 r2)
  bw : Below k w (W.putObj D (.deferred none))
  df : W.heap[D]? = some (.deferred (some []))
theorem pe_of {k : Nat} {w : World} {r0 : Value} {r1 r2 : Int} {D : Nat} {W : World} (b0 : Blk W k 22 #[r0]) (b1 : Blk W (k + 1) 3 #[.int .i64 r1]) (b2 : Blk W (k + 2) 24 #[.int .i64 r2])
    (hb : Below k w W) (hd : W.heap[D]? = some (.deferred (some []))) (hD : k + 10 ≤ D) : PE k w r0 r1 r2 D W :=
  ⟨(blk_putObj _ b0 (by omega)).cell 0, (blk_putObj _ b1 (by omega)).cell 0, (blk_putObj _ b2 (by omega)).cell 0, below_putObj _ hb (by omega), hd⟩
theorem pi_put {k : Nat} {w : World} {l : List Sg} {rd ms at_ : Int} {vb v : Value} {W : World} (hp : PJ k w l rd ms at_ vb v W) (r0 : Value) (a e : Int) {D : Nat} (hd : W.heap[D]? = some (.deferred (some []))) (hD : k + 10 ≤ D) :
    PE k w r0 a e D (((W.setCell ⟨k, 0, none⟩ r0).setCell ⟨k + 1, 0, none⟩ (.int .i64 a)).setCell ⟨k + 2, 0, none⟩ (.int .i64 e)) := by
  have e1 : Blk (W.setCell ⟨k, 0, none⟩ r0) (k + 1) 3 #[.int .i64 0] := hp.r1.other (by show k + 1 ≠ k; omega) _
  have e2 : Blk ((W.setCell ⟨k, 0, none⟩ r0).setCell ⟨k + 1, 0, none⟩ (.int .i64 a)) (k + 2) 24 #[.int .i64 0] :=
    (hp.r2.other (by show k + 2 ≠ k; omega) _).other (by show k + 2 ≠ k + 1; omega) _
  have hb : BF k W (((W.setCell ⟨k, 0, none⟩ r0).setCell ⟨k + 1, 0, none⟩ (.int .i64 a)).setCell ⟨k + 2, 0, none⟩ (.int .i64 e)) :=
    ((BF.put hp.r0 (by omega) _).trans (BF.put e1 (by omega) _)).trans (BF.put e2 (by omega) _)
  have hlt : D < W.heap.size := (Array.getElem?_eq_some_iff.1 hd).1
  refine pe_of ?_ ?_ ?_ (hb.below hp.bw (by have := hp.sz; omega)) ((hb.same D hlt (.inr (.inr ⟨_, hd, rfl⟩))).trans hd) hD
  · exact ((hp.r0.put 0 _).other (by show k ≠ k + 1; omega) _).other (by show k ≠ k + 2; omega) _
  · exact (e1.put 0 _).other (by show k + 1 ≠ k + 2; omega) _
  · exact e2.put 0 _
theorem px_end {k : Nat} {w : World} {a D : Nat} {W : World} (hx : PX k w a W) (hd : W.heap[D]? = some (.deferred (some []))) (hD : k + 10 ≤ D) : PE k w (.slice none 0 0) a 4 D W :=
  pe_of hx.r0 hx.r1 hx.r2 hx.bw hd hD
/-- What Parse hands back. -/
def PaOk (s : List UInt8) (e : Ending) (w' : World) : Prop :=
  ∃ v, e = .returned (.tuple #[v, .int .i64 ((parseP s).2.1 : Nat), .int .i64 (parseP s).2.2]) ∧ SRow w' v (parseP s).1

set_option maxRecDepth 100000 in
set_option maxHeartbeats 4000000 in
theorem parse_any (s : ByteArray) (w : World) (hs : s.size ≤ 1048576) (hl : Ldd w) :
    Calls Tryd.prog 25 #[.string s] w fun e w' => PaOk s.data.toList e w' ∧ Below w.heap.size w w' := by
  refine (callsIn_wide (n := 5)).1 ?_
  refine callsIn_of_wp_marks Tryd.func25 rfl trivial ?_ rfl
  simp only [Tryd.ntmps25, List.size_toArray, List.length_cons, List.length_nil, Nat.reduceAdd, Nat.reduceSub, Array.replicate_succ, Array.replicate_zero, List.push_toArray, List.append_toArray, List.nil_append, List.cons_append]
  by_cases h0 : s.data.toList = []
  · have hE : s.toList.isEmpty = true := by rw [ByteArray.toList_eq, h0]; rfl
    have HP : Hid (parseP s.data.toList = ([], 0, 0)) := by show _ = _; unfold parseP; rw [if_pos h0]
    gi_wp2
    have hc0 : (((w.alloc (.cells #[.slice none 0 0] 22)).alloc (.cells #[.int .i64 0] 3)).alloc (.cells #[.int .i64 0] 24)).cell? ⟨w.heap.size, 0, none⟩ = some (.slice none 0 0) := (((Blk.new w _ _).alloc _).alloc _).cell 0
    have hc1 : (((w.alloc (.cells #[.slice none 0 0] 22)).alloc (.cells #[.int .i64 0] 3)).alloc (.cells #[.int .i64 0] 24)).cell? ⟨w.heap.size + 1, 0, none⟩ = some (.int .i64 0) := ((Blk.new_at (by simp) _ _).alloc _).cell 0
    have hc2 : (((w.alloc (.cells #[.slice none 0 0] 22)).alloc (.cells #[.int .i64 0] 3)).alloc (.cells #[.int .i64 0] 24)).cell? ⟨w.heap.size + 1 + 1, 0, none⟩ = some (.int .i64 0) := (Blk.new_at (by simp) _ _).cell 0
    have hbw : Below w.heap.size w (((w.alloc (.cells #[.slice none 0 0] 22)).alloc (.cells #[.int .i64 0] 3)).alloc (.cells #[.int .i64 0] 24)) :=
      (((Below.refl _ w).alloc (Nat.le_refl _) _).alloc (by simp) _).alloc (by simp; omega) _
    refine ⟨.tuple #[.slice none 0 0, .int .i64 0, .int .i64 0], ?_, ⟨.slice none 0 0, ?_, ?_⟩, hbw⟩
    · simp [results, Tryd.f25, go_sem, hc0, hc1, hc2]
    · rw [HP.out]; rfl
    · rw [HP.out]; exact srow_nil _
  · have hE : s.toList.isEmpty = false := by
      rw [ByteArray.toList_eq]
      cases h : s.data.toList with
      | nil => exact absurd h h0
      | cons a r => rfl
    have HP : Hid (parseP s.data.toList = match psRun (spl 32 s.data.toList) with
      | .error a => ([], a, 4)
      | .ok st => if 0 < st.ms then ([], s.data.toList.length, 4) else if chkP st.l ≠ 0 then ([], 0, chkP st.l) else (st.l, 0, 0)) := by
      show _ = _; unfold parseP; rw [if_neg h0]; rfl
    clear h0
    have hmix : Tryd.prog.follows .mixedOrders = true := by kernel_rfl
    gi_wp2_with (refine ⟨trivial, ?_⟩; gi_at_call 48; refine (callsIn_wide.2 (splitSeq_any _ _ _)).mono ?_; rintro e w' ⟨rfl, rfl⟩)
    simp only [Nat.add_assoc, Nat.reduceAdd]
    have HI0 : PInv w.heap.size w [] ((((((((((w.alloc (.cells #[.slice none 0 0] 22)).alloc (.cells #[.int .i64 0] 3)).alloc (.cells #[.int .i64 0] 24)).alloc (.cells #[.slice none 0 0] 22)).alloc (.cells #[.int .i64 0] 3)).alloc (.cells #[.int .i64 0] 3)).alloc (.cells #[.int .i64 0] 3)).alloc (.cells #[.string s] 9)).alloc (.cells #[.string ⟨#[32]⟩] 9)).alloc (.cells #[.int .i64 0] 3)) := by
      refine ⟨⟨[], 0, 0, 0⟩, .slice none 0 0, rfl, ?_⟩
      refine ⟨?_, ?_, ?_, ?_, ?_, ?_, ?_, World.ownsRow_nil _ _ _ _, by simp, ?_⟩
      · exact (((((((((Blk.new w _ _).alloc _).alloc _).alloc _).alloc _).alloc _).alloc _).alloc _).alloc _).alloc _
      · exact (((((((((Blk.new_at (by simp) _ _).alloc _).alloc _).alloc _).alloc _).alloc _).alloc _).alloc _).alloc _)
      · exact ((((((((Blk.new_at (by simp) _ _).alloc _).alloc _).alloc _).alloc _).alloc _).alloc _).alloc _)
      · exact (((((((Blk.new_at (by simp) _ _).alloc _).alloc _).alloc _).alloc _).alloc _).alloc _)
      · exact ((((((Blk.new_at (by simp) _ _).alloc _).alloc _).alloc _).alloc _).alloc _)
      · exact (((((Blk.new_at (by simp) _ _).alloc _).alloc _).alloc _).alloc _)
      · exact ((((Blk.new_at (by simp) _ _).alloc _).alloc _).alloc _)
      · exact ((((((((((Below.refl _ w).alloc (Nat.le_refl _) _).alloc (by simp) _).alloc (by simp; omega) _).alloc (by simp; omega) _).alloc (by simp; omega) _).alloc (by simp; omega) _).alloc (by simp; omega) _).alloc (by simp; omega) _).alloc (by simp; omega) _).alloc (by simp; omega) _
    have HS7 : Blk ((((((((((w.alloc (.cells #[.slice none 0 0] 22)).alloc (.cells #[.int .i64 0] 3)).alloc (.cells #[.int .i64 0] 24)).alloc (.cells #[.slice none 0 0] 22)).alloc (.cells #[.int .i64 0] 3)).alloc (.cells #[.int .i64 0] 3)).alloc (.cells #[.int .i64 0] 3)).alloc (.cells #[.string s] 9)).alloc (.cells #[.string ⟨#[32]⟩] 9)).alloc (.cells #[.int .i64 0] 3)) (w.heap.size + 7) 9 #[.string s] := ((Blk.new_at (by simp) _ _).alloc _).alloc _
    have HS8 : Blk ((((((((((w.alloc (.cells #[.slice none 0 0] 22)).alloc (.cells #[.int .i64 0] 3)).alloc (.cells #[.int .i64 0] 24)).alloc (.cells #[.slice none 0 0] 22)).alloc (.cells #[.int .i64 0] 3)).alloc (.cells #[.int .i64 0] 3)).alloc (.cells #[.int .i64 0] 3)).alloc (.cells #[.string s] 9)).alloc (.cells #[.string ⟨#[32]⟩] 9)).alloc (.cells #[.int .i64 0] 3)) (w.heap.size + 8) 9 #[.string ⟨#[32]⟩] := (Blk.new_at (by simp) _ _).alloc _
    have HS9 : Blk ((((((((((w.alloc (.cells #[.slice none 0 0] 22)).alloc (.cells #[.int .i64 0] 3)).alloc (.cells #[.int .i64 0] 24)).alloc (.cells #[.slice none 0 0] 22)).alloc (.cells #[.int .i64 0] 3)).alloc (.cells #[.int .i64 0] 3)).alloc (.cells #[.int .i64 0] 3)).alloc (.cells #[.string s] 9)).alloc (.cells #[.string ⟨#[32]⟩] 9)).alloc (.cells #[.int .i64 0] 3)) (w.heap.size + 9) 3 #[.int .i64 0] := Blk.new_at (by simp) _ _
    have HSZ : ((((((((((w.alloc (.cells #[.slice none 0 0] 22)).alloc (.cells #[.int .i64 0] 3)).alloc (.cells #[.int .i64 0] 24)).alloc (.cells #[.slice none 0 0] 22)).alloc (.cells #[.int .i64 0] 3)).alloc (.cells #[.int .i64 0] 3)).alloc (.cells #[.int .i64 0] 3)).alloc (.cells #[.string s] 9)).alloc (.cells #[.string ⟨#[32]⟩] 9)).alloc (.cells #[.int .i64 0] 3)).heap.size = w.heap.size + 10 := by simp
    generalize (((((((((w.alloc (.cells #[.slice none 0 0] 22)).alloc (.cells #[.int .i64 0] 3)).alloc (.cells #[.int .i64 0] 24)).alloc (.cells #[.slice none 0 0] 22)).alloc (.cells #[.int .i64 0] 3)).alloc (.cells #[.int .i64 0] 3)).alloc (.cells #[.int .i64 0] 3)).alloc (.cells #[.string s] 9)).alloc (.cells #[.string ⟨#[32]⟩] 9)).alloc (.cells #[.int .i64 0] 3) = W0 at *
    generalize hk : w.heap.size = k at *
    have HK := Lib.hid hk
    clear hk
    have hsz : s.data.toList.length = s.size := by simp
    refine wpIn_rangeFunc_S (hro := rfl) (h1 := by omega) (gf := 83) (lb := #[.pointer (some ⟨k + 8, 0, none⟩), .pointer (some ⟨k + 7, 0, none⟩), .pointer (some ⟨k + 9, 0, none⟩)]) (hg := rfl) (hFg := trivial) (eg := enters_of Tryd.func83 (by kernel_rfl) rfl)
      (hseq := splitIter (5 - 1) (by omega) 32 s W0 (k + 7) HS7 HS8 HS9 (by omega)) (hb0 := KBlk.refl _ _ _) (hhi := by omega) (hbh := by omega) (hps := fun _ => rfl)
      (I := PInv k w) (Ix := PExt k w) (hI := by rw [HSZ]; exact pinv_own k w) (hIx := fun c => by rw [HSZ]; exact pext_own k w c) (hIs := fun pre A u h => pinv_set k w pre A u h) (h0 := HI0)
      (a₁ := fun x => { tmps := #[.string s, undef, .pointer (some ⟨k, 0, none⟩), .pointer (some ⟨k + 1, 0, none⟩), .pointer (some ⟨k + 2, 0, none⟩), .pointer (some ⟨k + 3, 0, none⟩), .pointer (some ⟨k + 4, 0, none⟩), .pointer (some ⟨k + 5, 0, none⟩), .pointer (some ⟨k + 6, 0, none⟩), .string ⟨x.toArray⟩, undef, undef, undef, undef, undef, .string s, .bool false, .string s, .func (.func 83) #[] #[.pointer (some ⟨k + 8, 0, none⟩), .pointer (some ⟨k + 7, 0, none⟩), .pointer (some ⟨k + 9, 0, none⟩)], .string ⟨x.toArray⟩, undef, undef, undef, undef, undef, undef, undef, undef, undef, undef, undef, undef, undef, undef, undef, undef, undef, undef, undef, undef, undef, undef, undef, undef, undef, undef, undef, undef, undef, undef, undef, undef, undef, undef, undef, undef, undef, undef, undef, undef, undef, undef, undef, undef, undef, undef, undef, undef, undef, undef, undef, undef, undef, undef, undef, undef, undef, undef, undef, undef, undef, undef], defers := [] }) ?assign ?body ?done ?stop
    case assign =>
      intro l x W K hK
      gi_wp2
      exact hK
    case body =>
      rintro l pre x W ⟨st, v, hst, hp⟩ hpre
      have hok := ps_ok hst
      have hat : st.at_ ≤ s.size + 1 := by
        have := ps_at_le (s := s.data.toList) hst ((List.prefix_append pre [x]).trans hpre)
        rwa [hsz] at this
      have hxl : x.length ≤ s.size := by
        have := spl_len 32 s.data.toList x (hpre.subset (by simp))
        rwa [hsz] at this
      have hln := hok.ln
      have y3 : W.cell? ⟨k + 3, 0, none⟩ = some v := hp.bl.cell 0
      have y4 : W.cell? ⟨k + 4, 0, none⟩ = some (.int .i64 st.rd) := hp.br.cell 0
      have y5 : W.cell? ⟨k + 5, 0, none⟩ = some (.int .i64 st.ms) := hp.bm.cell 0
      have y6 : W.cell? ⟨k + 6, 0, none⟩ = some (.int .i64 st.at_) := hp.ba.cell 0
      by_cases hm : st.ms = 0
      · have HM := Lib.hid hm
        have hm0 : (st.ms : Int) = 0 := by omega
        rw [hm0] at y5
        have HKC := Lib.hid (fun W => kindOf_any x W (by omega))
        by_cases hk : kindP x = 0
        · rw [hk] at HKC
          have z0 : W.cell? ⟨k, 0, none⟩ = some (.slice none 0 0) := hp.r0.cell 0
          have z1 : W.cell? ⟨k + 1, 0, none⟩ = some (.int .i64 0) := hp.r1.cell 0
          have z2 : W.cell? ⟨k + 2, 0, none⟩ = some (.int .i64 0) := hp.r2.cell 0
          have g0 : W.frozen? ⟨k, 0, none⟩ = false := hp.r0.frozen 0
          have g1 : W.frozen? ⟨k + 1, 0, none⟩ = false := hp.r1.frozen 0
          have g2 : W.frozen? ⟨k + 2, 0, none⟩ = false := hp.r2.frozen 0
          clear hm hm0
          gi_wp2_with (refine ⟨trivial, ?_⟩; gi_at_call 49; refine (CallsIn.inRound l (callsIn_wide.2 (HKC.out _))).mono ?_; rintro e w' ⟨rfl, rfl⟩)
          have hf := pi_fail hp st.at_
          have hr : psRun (pre ++ [x]) = .error st.at_ := by rw [psRun_snoc, hst]; show psStep st x = _; unfold psStep; rw [if_pos HM.out, if_pos hk]
          gi_region_with_o (fail)
          all_goals
            gi_wp2
            exact ⟨by rw [HSZ]; exact hf.2.keeps _, rfl, _, hr, hf.1⟩
        · have hz : (kindP x == 0) = false := by simpa using hk
          have HKB : Hid (kindP x = kindP x) := rfl
          obtain ⟨xv, cv, rfl⟩ := hp.ow.shape
          have HUS := Lib.hid (fun w => used_any (kindP x) w)
          have HRS : Hid (psRun (pre ++ [x]) = .ok ⟨st.l ++ [zeroSg (kindP x)], 0, 2 * usedP (kindP x), st.at_ + (x.length + 1)⟩) := by show _ = _; rw [psRun_snoc, hst]; show psStep st x = _; unfold psStep; rw [if_pos HM.out, if_neg hk]
          have HP := Lib.hid hp
          have hus := used_le (kindP x)
          have HLN : Hid (st.l.length ≤ 1048578) := by show _ ≤ _; omega
          have hmax : maxLen = 9223372036854775807 := rfl
          have hin : (⟨x.toArray⟩ : ByteArray).size = x.length := by simp [ByteArray.size]
          clear hp hm hm0 hk HM hok hln
          gi_wp2_with (first
            | (refine ⟨trivial, ?_⟩; gi_at_call 49; refine (CallsIn.inRound l (callsIn_wide.2 (HKC.out _))).mono ?_; rintro e w' ⟨rfl, rfl⟩)
            | (refine wpListIn_app (P := Tryd.prog) el_sg (hown := HP.out.ow) (by exact HP.out.sz) rfl rfl rfl (m := 0) (cs := #[.int .i64 (kindP x), .int .i64 0, .int .i64 0, .int .i64 0, .int .i64 0, .int .i64 0, .int .i64 0]) rfl (by intro u hu; simp at hu; rcases hu with rfl | rfl <;> rfl) rfl (by have := HLN.out; omega) (by have := HLN.out; omega) ?_))
          intro v5 w5 h5 hg5
          have hso : SOwn w5 (k + 10) v5 (st.l ++ [zeroSg (kindP x)]) := by
            unfold SOwn
            rw [scells_append, List.length_append]
            exact h5
          have hg5 := PJ.grown HP.out hso hg5
          obtain ⟨x5, c5, rfl⟩ := hso.shape
          have z3 : w5.cell? ⟨k + 3, 0, none⟩ = some (.slice xv st.l.length cv) := hg5.1.bl.cell 0
          have z4 : w5.cell? ⟨k + 4, 0, none⟩ = some (.int .i64 st.rd) := hg5.1.br.cell 0
          have z5 : w5.cell? ⟨k + 5, 0, none⟩ = some (.int .i64 st.ms) := hg5.1.bm.cell 0
          have z6 : w5.cell? ⟨k + 6, 0, none⟩ = some (.int .i64 st.at_) := hg5.1.ba.cell 0
          have g3 : w5.frozen? ⟨k + 3, 0, none⟩ = false := hg5.1.bl.frozen 0
          have g4 : w5.frozen? ⟨k + 4, 0, none⟩ = false := hg5.1.br.frozen 0
          have g5 : w5.frozen? ⟨k + 5, 0, none⟩ = false := hg5.1.bm.frozen 0
          have g6 : w5.frozen? ⟨k + 6, 0, none⟩ = false := hg5.1.ba.frozen 0
          have HG5 := Lib.hid hg5
          clear h5 hso hg5 y3 y4 y5 y6
          gi_wp2_with (refine ⟨trivial, ?_⟩; gi_at_call 38; refine (CallsIn.inRound l (callsIn_wide.2 (HUS.out _))).mono ?_; rintro e w' ⟨rfl, rfl⟩)
          have hA := HG5.out.1.put3 (.slice x5 (st.l.length + 1) c5)
          have hB := hA.1.put4 0
          have hC := hB.1.put5 ((2 * usedP (kindP x) : Nat) : Int)
          have hD := hC.1.put6 ((st.at_ + (x.length + 1) : Nat) : Int)
          have hF := HG5.out.2.trans (hA.2.trans (hB.2.trans (hC.2.trans hD.2)))
          refine ⟨?_, ?_, ⟨st.l ++ [zeroSg (kindP x)], 0, 2 * usedP (kindP x), st.at_ + (x.length + 1)⟩, .slice x5 (st.l ++ [zeroSg (kindP x)]).length c5, HRS.out, ?_⟩
          · exact hF.keeps _
          · exact hF.kblk HP.out.sz
          · have e : (st.l ++ [zeroSg (kindP x)]).length = st.l.length + 1 := by simp
            unfold PI
            rw [e] at hD ⊢
            exact hD.1
      · have hmb : ((st.ms : Int) == 0) = false := by simpa using hm
        obtain ⟨hne, hrm⟩ := hok.rd (by omega)
        have HNM := Lib.hid (number_any x (by omega))
        have hlw : Ldd W := hl.below (by rw [HK.out]; exact hp.bw)
        have HLW := Lib.hid hlw
        have HP := Lib.hid hp
        clear hlw
        cases hn : numP x with
        | none =>
          have HNV : Hid (numV x = .tuple #[.int .i64 0, .bool false]) := by show _ = _; unfold numV; rw [hn]
          rw [HNV.out] at HNM
          have hr : psRun (pre ++ [x]) = .error st.at_ := by rw [psRun_snoc, hst]; show psStep st x = _; unfold psStep; rw [if_neg hm, hn]
          clear hp hm
          gi_wp2_with (refine ⟨trivial, ?_⟩; gi_at_call 50; refine (CallsIn.inRound l (callsIn_wide.2 (HNM.out _ HLW.out))).mono ?_)
          rintro e W1 ⟨rfl, hb1⟩
          have hp1 := HP.out.below hb1
          have hf1 := BF.of_below (k := k) hb1
          have z6 : W1.cell? ⟨k + 6, 0, none⟩ = some (.int .i64 st.at_) := hp1.ba.cell 0
          have z0 : W1.cell? ⟨k, 0, none⟩ = some (.slice none 0 0) := hp1.r0.cell 0
          have z1 : W1.cell? ⟨k + 1, 0, none⟩ = some (.int .i64 0) := hp1.r1.cell 0
          have z2 : W1.cell? ⟨k + 2, 0, none⟩ = some (.int .i64 0) := hp1.r2.cell 0
          have g0 : W1.frozen? ⟨k, 0, none⟩ = false := hp1.r0.frozen 0
          have g1 : W1.frozen? ⟨k + 1, 0, none⟩ = false := hp1.r1.frozen 0
          have g2 : W1.frozen? ⟨k + 2, 0, none⟩ = false := hp1.r2.frozen 0
          have hf := pi_fail hp1 st.at_
          clear y3 y4 y5 y6 hb1
          gi_wp2_with (fail)
          gi_region_with_o (fail)
          all_goals
            gi_wp2
            exact ⟨by rw [HSZ]; exact (hf1.trans hf.2).keeps _, rfl, _, hr, hf.1⟩
        | some n =>
          have HNV : Hid (numV x = .tuple #[.int .i64 n, .bool true]) := by show _ = _; unfold numV; rw [hn]
          rw [HNV.out] at HNM
          have HRS : Hid (psRun (pre ++ [x]) = .ok ⟨st.l.dropLast ++ [putN (st.l.getLast?.getD (zeroSg 0)) st.rd n], st.rd + 1, st.ms - 1, st.at_ + (x.length + 1)⟩) := by
            show _ = _; rw [psRun_snoc, hst]; show psStep st x = _; unfold psStep; rw [if_neg hm, hn]
          obtain ⟨sl, rd, ms, at_⟩ := st
          obtain ⟨L, z, rfl⟩ : ∃ L z, sl = L ++ [z] := ⟨sl.dropLast, sl.getLast hne, (List.dropLast_concat_getLast hne).symm⟩
          simp only [List.dropLast_concat, List.getLast?_concat, Option.getD_some] at HRS
          simp only at hln hmb hrm hat y4 y5 y6
          have e : (L ++ [z]).length = L.length + 1 := by simp
          have how : SOwn W (k + 10) v (L ++ [z]) := hp.ow
          unfold SOwn at how
          rw [e] at hln
          rw [e] at how
          obtain ⟨g, c, rfl, hgb, -⟩ := how.form (by omega)
          have hm1 : 0 < ms := Nat.pos_of_ne_zero hm
          have hLb : L.length ≤ 1048578 := by omega
          have hszW : k + 10 ≤ W.heap.size := hp.sz
          clear hp hm hok hne
          gi_wp2_with (refine ⟨trivial, ?_⟩; gi_at_call 50; refine (CallsIn.inRound l (callsIn_wide.2 (HNM.out _ HLW.out))).mono ?_)
          rintro e W1 ⟨rfl, hb1⟩
          have hp1 := HP.out.below hb1
          have hf1 := BF.of_below (k := k) hb1
          have z3 : W1.cell? ⟨k + 3, 0, none⟩ = some (.slice (some ⟨g, 0, none⟩) (L.length + 1) c) := hp1.bl.cell 0
          have z4 : W1.cell? ⟨k + 4, 0, none⟩ = some (.int .i64 rd) := hp1.br.cell 0
          obtain ⟨q, m2, hq, hm2, hqf⟩ : ∃ q m2 : Nat, rd / 2 = q ∧ rd % 2 = m2 ∧ (rd = 2 * q + m2 ∧ m2 < 2) := ⟨_, _, rfl, rfl, by omega⟩
          have hq2 : q ≤ 2 := by omega
          have hq3 : ((q : Nat) : Int) < 3 := by omega
          have hq4 : (0 : Int) ≤ (q : Int) := by omega
          have hw4 : wrap64 (L.length : Int) = L.length := wrap_nat _ hLb
          have hw3 : (L.length : Int) < (L.length : Int) + 1 := Int.lt_succ _
          have hw5 : (0 : Int) ≤ (L.length : Int) := Int.natCast_nonneg _
          have hd2 := tdiv2 rd q hq
          have hm2 := tmod2 rd m2 hm2
          have HQF := Lib.hid hqf
          have HBD : Hid (rd ≤ 5 ∧ ms ≤ 6 ∧ at_ ≤ s.size + 1 ∧ x.length ≤ s.size) := ⟨by omega, by omega, hat, hxl⟩
          clear hpre hat hq hqf hrm hxl hln
          clear y3 y4 y5 y6  hb1
          gi_wp2_with (fail)
          refine wpIn_region_quiet_round rfl (by kernel_rfl) (by kernel_rfl) (by kernel_rfl) ?_
          repeat (gi_big_quiet_step (fail))
          refine wpQuietIn_nil ?_
          rintro _ ⟨nq, rfl⟩
          have HM2 := Lib.hid hm2
          clear hm2
          have hb2 := below_drewN (Below.refl W1.heap.size W1) nq
          have hp2 := hp1.below hb2
          have hf2 := hf1.trans (BF.of_below (k := k) hb2)
          clear hb2 hp1 hf1 z3 z4 hw3 hw4 hw5 hq3 hq4 hd2 hm1 HP HNM how hst
          generalize W1.drewN nq = W2 at *
          have hsl : (scells (L ++ [z])).length = (L.length + 1) * 7 := by rw [scells_length, e]
          have how2 : W2.ownsRow (k + 10) 35 7 (.slice (some ⟨g, 0, none⟩) (L.length + 1) c) (L.length + 1) (scells (L ++ [z])) := by
            have := hp2.ow
            unfold SOwn at this
            rwa [e] at this
          obtain ⟨hqf1, hqf2⟩ := HQF.out
          obtain ⟨hrd5, hms6, hat, hxl⟩ := HBD.out
          obtain ⟨u0, hu0⟩ : ∃ u0, W2.cell? ⟨g, L.length * 7 + 1 + rd, none⟩ = some u0 := by
            rw [World.ownsRow.cellAt how2 _ (by omega)]
            exact ⟨_, List.getElem?_eq_getElem (by omega)⟩
          have hfr := World.ownsRow.frozenAt how2 (L.length * 7 + 1 + rd)
          have hN := hp2.num rd (by omega) n
          have HZ := Lib.hid (show PJ k w (L ++ [putN z rd n]) rd ms at_ (.slice (some ⟨g, 0, none⟩) (L.length + 1) c) (.slice (some ⟨g, 0, none⟩) (L.length + 1) c) (W2.setCell ⟨g, L.length * 7 + 1 + rd, none⟩ (.int .i64 n)) ∧ BF k W (W2.setCell ⟨g, L.length * 7 + 1 + rd, none⟩ (.int .i64 n)) from ⟨hN.1, hf2.trans hN.2⟩)
          have y4 : W2.cell? ⟨k + 4, 0, none⟩ = some (.int .i64 rd) := hp2.br.cell 0
          have hgne : ¬ (g = k + 4) := by omega
          have hgne5 : ¬ (g = k + 5) := by omega
          have hgne6 : ¬ (g = k + 6) := by omega
          have hgne' : ¬ (k + 4 = g) := by omega
          have hgne5' : ¬ (k + 5 = g) := by omega
          have hgne6' : ¬ (k + 6 = g) := by omega
          have y5 : W2.cell? ⟨k + 5, 0, none⟩ = some (.int .i64 ms) := hp2.bm.cell 0
          have y6 : W2.cell? ⟨k + 6, 0, none⟩ = some (.int .i64 at_) := hp2.ba.cell 0
          have g4 : W2.frozen? ⟨k + 4, 0, none⟩ = false := hp2.br.frozen 0
          have g5 : W2.frozen? ⟨k + 5, 0, none⟩ = false := hp2.bm.frozen 0
          have g6 : W2.frozen? ⟨k + 6, 0, none⟩ = false := hp2.ba.frozen 0
          have hms1 : ¬ ms = 0 := by rintro rfl; simp at hmb
          have wR : wrap64 ((rd : Int) + 1) = ((rd + 1 : Nat) : Int) := by rw [wrap64_of _ (by omega)]; omega
          have wM : wrap64 ((ms : Int) - 1) = ((ms - 1 : Nat) : Int) := by rw [wrap64_of _ (by omega)]; omega
          have hxz : (⟨x.toArray⟩ : ByteArray).size = x.length := by simp [ByteArray.size]
          clear hN how2 hsl hp2 hf2
          rcases lt_two hqf2 with rfl | rfl
          · obtain rfl : rd = 2 * q := hqf1
            have ea : L.length * 7 + 1 + 2 * q = L.length * 7 + 1 + q * 2 := by omega
            rw [ea] at hu0 hfr
            have EA := Lib.hid ea
            clear ea HQF hqf2
            have hm2 := HM2.out
            gi_wp2_with (fail)
            have e4 : ((2 * q + 1 : Nat) : Int) = 2 * (q : Int) + 1 := by omega
            have e5 : ((ms - 1 : Nat) : Int) = (ms : Int) - 1 := by omega
            have e6 : ((at_ + (x.length + 1) : Nat) : Int) = (at_ : Int) + ((x.length : Int) + 1) := by omega
            have hZ := HZ.out
            rw [EA.out] at hZ
            have hA := hZ.1.put4 (2 * (q : Int) + 1)
            have hB := hA.1.put5 ((ms : Int) - 1)
            have hC := hB.1.put6 ((at_ : Int) + ((x.length : Int) + 1))
            have hF := hZ.2.trans (hA.2.trans (hB.2.trans hC.2))
            refine ⟨hF.keeps _, hF.kblk hszW, ⟨L ++ [putN z (2 * q) n], 2 * q + 1, ms - 1, at_ + (x.length + 1)⟩, .slice (some ⟨g, 0, none⟩) (L.length + 1) c, HRS.out, ?_⟩
            show PJ k w _ ((2 * q + 1 : Nat) : Int) ((ms - 1 : Nat) : Int) ((at_ + (x.length + 1) : Nat) : Int) _ _ _
            rw [e4, e5, e6]
            exact hC.1
          · obtain rfl : rd = 2 * q + 1 := hqf1
            have ea : L.length * 7 + 1 + (2 * q + 1) = L.length * 7 + 1 + q * 2 + 1 := by omega
            rw [ea] at hu0 hfr
            have EA := Lib.hid ea
            clear ea HQF hqf2
            have hm2 := HM2.out
            gi_wp2_with (fail)
            have e4 : ((2 * q + 1 + 1 : Nat) : Int) = 2 * (q : Int) + 1 + 1 := by omega
            have e5 : ((ms - 1 : Nat) : Int) = (ms : Int) - 1 := by omega
            have e6 : ((at_ + (x.length + 1) : Nat) : Int) = (at_ : Int) + ((x.length : Int) + 1) := by omega
            have hZ := HZ.out
            rw [EA.out] at hZ
            have hA := hZ.1.put4 (2 * (q : Int) + 1 + 1)
            have hB := hA.1.put5 ((ms : Int) - 1)
            have hC := hB.1.put6 ((at_ : Int) + ((x.length : Int) + 1))
            have hF := hZ.2.trans (hA.2.trans (hB.2.trans hC.2))
            refine ⟨hF.keeps _, hF.kblk hszW, ⟨L ++ [putN z (2 * q + 1) n], 2 * q + 1 + 1, ms - 1, at_ + (x.length + 1)⟩, .slice (some ⟨g, 0, none⟩) (L.length + 1) c, HRS.out, ?_⟩
            show PJ k w _ ((2 * q + 1 + 1 : Nat) : Int) ((ms - 1 : Nat) : Int) ((at_ + (x.length + 1) : Nat) : Int) _ _ _
            rw [e4, e5, e6]
            exact hC.1
    case done =>
      rintro D W hD ⟨st, v, hst, hp⟩ hdef
      have hDk : k + 10 ≤ D := by omega
      have y5 : W.cell? ⟨k + 5, 0, none⟩ = some (.int .i64 st.ms) := hp.bm.cell 0
      have y3 : W.cell? ⟨k + 3, 0, none⟩ = some v := hp.bl.cell 0
      have z0 : W.cell? ⟨k, 0, none⟩ = some (.slice none 0 0) := hp.r0.cell 0
      have z1 : W.cell? ⟨k + 1, 0, none⟩ = some (.int .i64 0) := hp.r1.cell 0
      have z2 : W.cell? ⟨k + 2, 0, none⟩ = some (.int .i64 0) := hp.r2.cell 0
      have g0 : W.frozen? ⟨k, 0, none⟩ = false := hp.r0.frozen 0
      have g1 : W.frozen? ⟨k + 1, 0, none⟩ = false := hp.r1.frozen 0
      have g2 : W.frozen? ⟨k + 2, 0, none⟩ = false := hp.r2.frozen 0
      have HQ := HP.out
      rw [hst] at HQ
      simp only at HQ
      clear HI0 HS7 HS8 HS9 HP hmix hE
      by_cases hm : 0 < st.ms
      · rw [if_pos hm] at HQ
        have HQ := Lib.hid HQ
        have hmd : decide ((0 : Int) < (st.ms : Int)) = true := by simp; omega
        have hX := pi_put hp (.slice none 0 0) s.size 4 hdef hDk
        gi_wp2
        refine ⟨by simp, .inl ⟨_, _, rfl, run_takeDeferred hX.df, ?_⟩⟩
        have hc0 := hX.c0
        have hc1 := hX.c1
        have hc2 := hX.c2
        refine ⟨.tuple #[.slice none 0 0, .int .i64 s.size, .int .i64 4], ?_, ⟨.slice none 0 0, ?_, ?_⟩, ?_⟩
        · simp [results, Tryd.f25, go_sem, hc0, hc1, hc2]
        · rw [HQ.out, hsz]
        · rw [HQ.out]; exact srow_nil _
        · rw [HK.out]; exact hX.bw
      · rw [if_neg hm] at HQ
        have hmd : decide ((0 : Int) < (st.ms : Int)) = false := by simp; omega
        have hr : SRow W v st.l := hp.ow.row
        have HCK := Lib.hid (check_any v st.l W hr)
        obtain ⟨xv, cv, rfl⟩ := hp.ow.shape
        clear hr
        gi_wp2_with (refine ⟨trivial, ?_⟩; gi_at_call 19; refine (callsIn_wide.2 HCK.out).mono ?_)
        rintro e W1 ⟨rfl, hb1⟩
        have hp1 := PJ.below hp hb1
        have hdef1 : W1.heap[D]? = some (.deferred (some [])) := (hb1.block D (Array.getElem?_eq_some_iff.1 hdef).1).trans hdef
        have x3 : W1.cell? ⟨k + 3, 0, none⟩ = some (.slice xv st.l.length cv) := hp1.bl.cell 0
        have x0 : W1.cell? ⟨k, 0, none⟩ = some (.slice none 0 0) := hp1.r0.cell 0
        have x1 : W1.cell? ⟨k + 1, 0, none⟩ = some (.int .i64 0) := hp1.r1.cell 0
        have x2 : W1.cell? ⟨k + 2, 0, none⟩ = some (.int .i64 0) := hp1.r2.cell 0
        have f0 : W1.frozen? ⟨k, 0, none⟩ = false := hp1.r0.frozen 0
        have f1 : W1.frozen? ⟨k + 1, 0, none⟩ = false := hp1.r1.frozen 0
        have f2 : W1.frozen? ⟨k + 2, 0, none⟩ = false := hp1.r2.frozen 0
        clear y3 y5 z0 z1 z2 g0 g1 g2 HCK hb1 hdef
        by_cases hz : chkP st.l = 0
        · rw [if_neg (by simp [hz])] at HQ
          rw [hz]
          have hX := pi_put hp1 (.slice xv st.l.length cv) 0 0 hdef1 hDk
          have hrw : SRow ((((W1.setCell ⟨k, 0, none⟩ (.slice xv st.l.length cv)).setCell ⟨k + 1, 0, none⟩ (.int .i64 0)).setCell ⟨k + 2, 0, none⟩ (.int .i64 0)).putObj D (.deferred none)) (.slice xv st.l.length cv) st.l :=
            SOwn.row (ownsRow_putObj (ownsRow_setCell_below (ownsRow_setCell_below (ownsRow_setCell_below hp1.ow (by show k < k + 10; omega) _) (by show k + 1 < k + 10; omega) _) (by show k + 2 < k + 10; omega) _) _ hX.df rfl)
          gi_wp2
          refine ⟨by simp, .inl ⟨_, _, rfl, run_takeDeferred hX.df, ?_⟩⟩
          have hc0 := hX.c0
          have hc1 := hX.c1
          have hc2 := hX.c2
          refine ⟨.tuple #[.slice xv st.l.length cv, .int .i64 0, .int .i64 0], ?_, ⟨.slice xv st.l.length cv, ?_, ?_⟩, ?_⟩
          · simp [results, Tryd.f25, go_sem, hc0, hc1, hc2]
          · rw [HQ]; rfl
          · rw [HQ]; exact hrw
          · rw [HK.out]; exact hX.bw
        · rw [if_pos (by simpa using hz)] at HQ
          have hX := pi_put hp1 (.slice none 0 0) 0 (chkP st.l) hdef1 hDk
          generalize chkP st.l = zc at *
          have hzc : (zc != 0) = true := by simpa using hz
          gi_wp2
          refine ⟨by simp, .inl ⟨_, _, rfl, run_takeDeferred hX.df, ?_⟩⟩
          have hc0 := hX.c0
          have hc1 := hX.c1
          have hc2 := hX.c2
          refine ⟨.tuple #[.slice none 0 0, .int .i64 0, .int .i64 zc], ?_, ⟨.slice none 0 0, ?_, ?_⟩, ?_⟩
          · simp [results, Tryd.f25, go_sem, hc0, hc1, hc2]
          · rw [HQ]; rfl
          · rw [HQ]; exact srow_nil _
          · rw [HK.out]; exact hX.bw
    case stop =>
      rintro D c pre W hD hpre ⟨rfl, a, hst, hx⟩ hdef
      have hDk : k + 10 ≤ D := by omega
      have HQ := HP.out
      have hfull : psRun (spl 32 s.data.toList) = .error a := by
        obtain ⟨t, ht⟩ := hpre
        rw [← ht]; exact psRun_err _ _ _ hst
      rw [hfull] at HQ
      simp only at HQ
      have hX := px_end hx hdef hDk
      gi_wp2
      refine ⟨by simp, .inl ⟨_, _, rfl, run_takeDeferred hX.df, ?_⟩⟩
      have hc0 := hX.c0
      have hc1 := hX.c1
      have hc2 := hX.c2
      refine ⟨.tuple #[.slice none 0 0, .int .i64 a, .int .i64 4], ?_, ⟨.slice none 0 0, ?_, ?_⟩, ?_⟩
      · simp [results, Tryd.f25, go_sem, hc0, hc1, hc2]
      · rw [HQ]
      · rw [HQ]; exact srow_nil _
      · rw [HK.out]; exact hX.bw
end Go.Proofs.YtgjbelcnkmcbiaaDoor
