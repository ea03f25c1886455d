/-
  Walk: the metadata of a text, in the reference.
-/
import Derived.Test.YtakileiomgaahaaM8
import Derived.Deep.RegionLaw
import Derived.Deep.AppendLies
namespace Go.Proofs.Ytakileiomgaahaa
open Go.RowKit

/-- 'append(out, x1, ..)' within a region that draws its order. -/
theorem step_app {P : Program} {w : World} {ops : Array Oper} {o : Oper} {a : Act} {K : Act → World → Prop} {Q : Exit → Act → World → Prop} {E : Prop} {t e : TypeId} {z : Value} {size bytes : Nat} (hE : Elem P t e z size bytes) (hgd : o.guard = none) {s x : Operand}
    (ho : o.op = .call { callee := .builtin .append, args := #[s, x], argTypes := #[t, t] }) {base : Nat} {v : Value} {n : Nat} {xs : List Value} (hs : a.eval s = v) (hown : w.ownsRow base e size v n xs) {cs : Array Value} {m k : Nat}
    (hx : a.eval x = .slice (some ⟨k, 0, none⟩) (m + 1) (m + 1)) (hb : Blk w k e cs) (hm : cs.size = (m + 1) * size) (h1 : ∀ u ∈ cs.toList, u.oneCell' = true) (hlen : (n + (m + 1)) * bytes ≤ 140737488355328) (h63 : n + (m + 1) ≤ maxLen) (hbase : base ≤ w.heap.size)
    (h : ∀ r cap w', w'.ownsRow base e size (.slice (some ⟨r, 0, none⟩) (n + (m + 1)) cap) (n + (m + 1)) (xs ++ cs.toList) → w.grownBy w' v.ownBlock → K (a.put o.dst (.slice (some ⟨r, 0, none⟩) (n + (m + 1)) cap)) w') :
    if Region.wanted o (yielded ops a.tmps) = true then Oper.wp P o a w K Q else E := by
  obtain ⟨ht, ⟨i, hi, hz, hsz, hby⟩, hzs, hp⟩ := hE
  exact step_append_lies (w := w) hgd s x t ho base e i z size bytes ht hi hz hsz hby hzs hp v n xs hs hown ⟨k, 0, none⟩ (m + 1) (m + 1) cs.toList hx (by simpa using hm) (World.news_of_block hb) h1 (by omega) h63 hlen hbase _ rfl fun g cap w' a1 a2 _ _ => h g cap w' a1 a2
theorem chkGo_snoc (p : Option Mt) (acc : List Mt) (m : Mt) (h : chkGo p acc = 0) : chkGo p (acc ++ [m]) = entP (acc.getLast?.or p) m := by
  induction acc generalizing p with
  | nil =>
    simp only [List.nil_append, chkGo, List.getLast?_nil, Option.none_or]
    split
    · rename_i h0; exact h0.symm
    · rfl
  | cons x r ih =>
    unfold chkGo at h
    split at h
    · rename_i h0
      rw [List.cons_append, chkGo, if_pos h0, ih _ h]
      cases r with
      | nil => rfl
      | cons y r =>
        rw [List.getLast?_cons_cons]
        obtain ⟨z, hz⟩ : ∃ z, (y :: r).getLast? = some z := ⟨_, List.getLast?_eq_some_getLast (by simp)⟩
        rw [hz]; rfl
    · rename_i h0; exact absurd h h0
theorem chkP_snoc (acc : List Mt) (m : Mt) (h : chkGo none acc = 0) (hl : acc.length < 16) : chkP (acc ++ [m]) = entP acc.getLast? m := by
  unfold chkP
  rw [if_neg (by simp; omega), chkGo_snoc _ _ _ h]
  simp
theorem fnd_take (c : UInt8) (u : List UInt8) (n : Nat) (hn : n ≤ u.length) : fnd c (u.take n) = min (fnd c u) n := by
  induction u generalizing n with
  | nil => simp at hn; simp [fnd, hn]
  | cons b u ih =>
    cases n with
    | zero => simp [fnd]
    | succ n =>
      rw [List.take_succ_cons]
      unfold fnd
      split
      · simp
      · rw [ih n (by simpa using hn)]; omega
theorem take_drop_eq (l : List UInt8) (p b : Nat) : (l.drop p).take b = (l.take (p + b)).drop p := by rw [List.drop_take, Nat.add_sub_cancel_left]
theorem fnd_ne (c d : UInt8) (u : List UInt8) (h : fnd d u < u.length) (hcd : c ≠ d) : fnd c u ≠ fnd d u := by
  intro he
  have h1 := fnd_get d u h
  have h2 := fnd_get c u (by omega)
  simp only [he] at h2
  exact hcd (h2.symm.trans h1)

set_option maxRecDepth 100000 in
set_option maxHeartbeats 4000000 in
theorem rparse_any (s : ByteArray) (w : World) (hs : s.size ≤ maxLen) :
    Calls Try.prog 51 #[.string s] w fun e w' => ParOk (parP s.data.toList) e w' ∧ Below w.heap.size w w' := by
  have hmax := hs
  unfold maxLen at hs
  have hlen : s.data.toList.length = s.size := by simp
  have HL := Lib.hid hlen
  clear hlen
  go_enter Try.func51, Try.ntmps51
  go_wp2_with fail
  obtain ⟨B, hB⟩ : ∃ B, B = w.heap.size := ⟨_, rfl⟩
  have HB := Lib.hid hB
  clear hB
  go_loopw [5, 6, 7] (fun v5 v6 v7 wr => ∃ (acc : List Mt) (p : Nat), v6 = .int .i64 p ∧ v7 = .int .i64 ((acc.length : Int) + 1) ∧ acc.length ≤ 16 ∧ p ≤ s.size ∧ MOwn wr B v5 acc ∧ Hid (chkGo none acc = 0) ∧ Hid (∀ m ∈ acc, m.1.length ≤ maxLen ∧ m.2.length ≤ maxLen) ∧
      Hid (parGo (18 - acc.length) acc (s.data.toList.drop p) = parP s.data.toList) ∧ Below B w wr ∧ B ≤ wr.heap.size) (fun _ _ v7 _ => 20 - (intOf v7).toNat)
  case atStart => exact ⟨[], 0, rfl, rfl, by decide, Nat.zero_le _, World.ownsRow_nil _ _ _ _, rfl, (fun m hm => by cases hm), rfl, Below.refl _ _, by have := HB.out; omega⟩
  case round =>
    obtain ⟨acc, p, rfl, rfl, ha, hpl, hown, hck, hbd, hpar, hbel, hszr⟩ := hrel
    obtain ⟨x5, c5, rfl⟩ := mown_shape hown
    have hp := hpar.out
    rw [show 18 - acc.length = (17 - acc.length) + 1 from by omega] at hp
    clear hpar
    by_cases hlt : p < s.size
    · have hd : decide ((p : Int) < (s.size : Int)) = true := by simp; omega
      obtain ⟨u, hu⟩ : ∃ u, u = s.data.toList.drop p := ⟨_, rfl⟩
      have hul : u.length = s.size - p := by rw [hu, List.length_drop, HL.out]
      have hne : u ≠ [] := by rintro rfl; simp at hul; omega
      rw [← hu] at hp
      by_cases hlim : 16 ≤ acc.length
      · rw [parGo_lim hne hlim] at hp
        have HP := Lib.hid hp
        have d1 : decide ((16 : Int) < (acc.length : Int) + 1) = true := by simp; omega
        clear hp hne hu hul
        go_wp2_with fail
        refine bodyPost_ret (v := .tuple #[.slice none 0 0, .int .i64 ((acc.length : Int) + 1), .int .i64 3]) (by simp [results, Try.f51, go_sem]) rfl ⟨?_, by rw [← HB.out]; exact hbel⟩
        rw [← HP.out]
        rfl
      have d1 : decide ((16 : Int) < (acc.length : Int) + 1) = false := by simp; omega
      have hc1 := fun w => find_any s p 10 w hmax hpl
      have hc2 := fun w => find_any s p 32 w hmax hpl
      rw [← hu] at hc1 hc2
      have hf1 := fnd_le 10 u
      have hf2 := fnd_le 32 u
      have hft := fnd_take 32 u (fnd 10 u) hf1
      have hfne : fnd 10 u < u.length → fnd 32 u ≠ fnd 10 u := fun h => fnd_ne 32 10 u h (by decide)
      have hform : (fnd 10 u = u.length ∨ fnd 32 (u.take (fnd 10 u)) = fnd 10 u) ↔ (fnd 10 u = u.length ∨ fnd 10 u < fnd 32 u) := by
        rw [hft]
        by_cases h : fnd 10 u < u.length
        · have := hfne h
          omega
        · omega
      have e10 : ((10 : UInt8).toNat : Int) = 10 := rfl
      have e32 : ((32 : UInt8).toNat : Int) = 32 := rfl
      rw [e10] at hc1
      rw [e32] at hc2
      obtain ⟨E, hE⟩ : ∃ E, E = p + fnd 10 u := ⟨_, rfl⟩
      obtain ⟨G, hG⟩ : ∃ G, G = p + fnd 32 u := ⟨_, rfl⟩
      rw [← hE] at hc1
      rw [← hG] at hc2
      have HC1 := Lib.hid hc1
      have HC2 := Lib.hid hc2
      clear hc1 hc2 e10 e32
      have hEs : E ≤ s.size := by omega
      have hGs : G ≤ s.size := by omega
      have hGp : p ≤ G := by omega
      by_cases hf : fnd 10 u = u.length ∨ fnd 10 u < fnd 32 u
      · rw [parGo_form hne hlim (hform.2 hf)] at hp
        have HP := Lib.hid hp
        have hbb : ((E : Int) == (s.size : Int)) = true ∨ ((E : Int) == (s.size : Int)) = false ∧ decide (E < G) = true := by
          by_cases h : fnd 10 u = u.length
          · exact .inl (by simp; omega)
          · exact .inr ⟨by simp; omega, by simp; omega⟩
        clear hp hform hfne hft hu hne hul hf1 hf2 hE hG hf
        go_wp2_with fail
        refine (HC1.out _).mono ?_
        rintro e w1 ⟨rfl, rfl⟩
        go_wp2_with fail
        refine (HC2.out _).mono ?_
        rintro e w1 ⟨rfl, rfl⟩
        rcases hbb with hb1 | ⟨hb1, hb2⟩
        all_goals
          go_wp2_with fail
          refine bodyPost_ret (v := .tuple #[.slice none 0 0, .int .i64 ((acc.length : Int) + 1), .int .i64 4]) (by simp [results, Try.f51, go_sem]) rfl ⟨?_, by rw [← HB.out]; exact hbel⟩
          rw [← HP.out]
          rfl
      have hf' := fun h => hf (hform.1 h)
      have hlm : (lineM u).1 = (s.data.toList.take G).drop p ∧ (lineM u).2 = (s.data.toList.take E).drop (G + 1) := by
        unfold lineM
        simp only
        rw [hft, show min (fnd 32 u) (fnd 10 u) = fnd 32 u from by omega, List.take_take, show min (fnd 32 u) (fnd 10 u) = fnd 32 u from by omega]
        rw [hE, hG]
        generalize fnd 32 u = b2 at *
        generalize fnd 10 u = b1 at *
        rw [hu, take_drop_eq, take_drop_eq, List.drop_drop]
        exact ⟨rfl, by rw [show p + (b2 + 1) = p + b2 + 1 from by omega]⟩
      have hdr : u.drop (fnd 10 u + 1) = s.data.toList.drop (E + 1) := by rw [hu, List.drop_drop, ← hu, hE]; congr 1
      have hEG : G < E := by omega
      have hE1 : E + 1 ≤ s.size := by omega
      have x1 : s.extract p G = ⟨(lineM u).1.toArray⟩ := by
        apply ByteArray.ext
        apply Array.toList_inj.1
        rw [extract_list, hlm.1]
      have x2 : s.extract (G + 1) E = ⟨(lineM u).2.toArray⟩ := by
        apply ByteArray.ext
        apply Array.toList_inj.1
        rw [extract_list, hlm.2]
      have hsz1 : (lineM u).1.length ≤ maxLen ∧ (lineM u).2.length ≤ maxLen := by
        unfold maxLen
        rw [hlm.1, hlm.2]
        simp
        omega
      have hck2 := chkP_snoc acc (lineM u) hck.out (by omega)
      have hck3 : entP acc.getLast? (lineM u) = 0 → chkGo none (acc ++ [lineM u]) = 0 := fun h => by rw [chkGo_snoc _ _ _ hck.out, Option.or_none]; exact h
      have hbd2 : ∀ m ∈ acc ++ [lineM u], m.1.length ≤ maxLen ∧ m.2.length ≤ maxLen := by
        intro m hm
        rcases List.mem_append.1 hm with hm | hm
        · exact hbd.out m hm
        · rw [List.mem_singleton.1 hm]; exact hsz1
      have hpe := fun h => (parGo_ent (f := 17 - acc.length) hne hlim hf' h).symm.trans hp
      have hps := fun h => (parGo_step (f := 17 - acc.length) hne hlim hf' h).symm.trans hp
      rw [hdr] at hps
      have HPE := Lib.hid hpe
      have HPS := Lib.hid hps
      have HCK2 := Lib.hid hck2
      have HCK3 := Lib.hid hck3
      have HBD2 := Lib.hid hbd2
      generalize lineM u = lm at *
      obtain ⟨mk, mv⟩ := lm
      simp only at x1 x2
      clear hpe hps hck2 hck3 hbd2 hp hform hfne hft hu hne hul hf1 hf2 hE hG hf hf' hlm hdr hsz1 hck hbd
      have d2 : ((E : Int) == (s.size : Int)) = false := by simp; omega
      have d3 : decide (E < G) = false := by simp; omega
      go_wp2_with fail
      refine (HC1.out _).mono ?_
      rintro e w1 ⟨rfl, rfl⟩
      go_wp2_with fail
      refine (HC2.out _).mono ?_
      rintro e w1 ⟨rfl, rfl⟩
      clear HC1 HC2
      go_wp2_with fail
      have z1 : IntKind.i64.wrap ((G : Int) + 1) = (G : Int) + 1 := IntWalk.i64_in _ (by omega)
      have z2 : ((G : Int) + 1).toNat = G + 1 := by omega
      have z3 : (0 : Int) ≤ (G : Int) + 1 := by omega
      have z4 : (G : Int) + 1 ≤ (E : Int) := by omega
      have z5 : (E : Int) ≤ (s.size : Int) := by omega
      have z6 : (0 : Int) ≤ (p : Int) := by omega
      have z7 : (p : Int) ≤ (G : Int) := by omega
      have z8 : (G : Int) ≤ (s.size : Int) := by omega
      have HOWN : Hid ((wr.alloc (.cells #[.string ⟨mk.toArray⟩, .string ⟨mv.toArray⟩] 67)).drew.ownsRow B 67 2 (.slice x5 acc.length c5) acc.length (mcells acc)) := World.ownsRow.alloc hown _
      have HBLK : Hid (Blk (wr.alloc (.cells #[.string ⟨mk.toArray⟩, .string ⟨mv.toArray⟩] 67)).drew wr.heap.size 67 #[.string ⟨mk.toArray⟩, .string ⟨mv.toArray⟩]) := Blk.new wr _ _
      have HBAS : Hid (B ≤ (wr.alloc (.cells #[.string ⟨mk.toArray⟩, .string ⟨mv.toArray⟩] 67)).drew.heap.size) := by
        show B ≤ (wr.alloc _).heap.size
        simp; omega
      have HBEL : Hid (Below B w (wr.alloc (.cells #[.string ⟨mk.toArray⟩, .string ⟨mv.toArray⟩] 67)).drew) := (hbel.alloc hszr _).drew
      go_region_law ((refine step_app el_meta (s := .tmp 36) (x := .tmp 47) rfl rfl (by simp [Act.eval]) HOWN.out (m := 0) (by simp [Act.eval]) HBLK.out rfl (by simp [Value.oneCell']) (by omega) (by unfold maxLen; omega) HBAS.out ?_; intro r2 cap2 w4 ho4 hg4))
      have hown4 := mown_more ho4 [(mk, mv)] rfl rfl
      have hbel4 : Below B w w4 := HBEL.out.grown hg4 HBAS.out (fun k hk => (hown.lt k hk).1)
      have hsz4 : B ≤ w4.heap.size := Nat.le_trans HBAS.out hg4.size
      clear ho4 hg4 hown hszr hbel HOWN HBLK HBAS HBEL
      clear z1 z2 z3 z4 z5 z6 z7 z8 x1 x2
      go_wp2_with fail
      refine (rcheck_any _ (acc ++ [(mk, mv)]) _ hown4.row HBD2.out).mono ?_
      rintro e w5 ⟨rfl, n5, rfl⟩
      rw [HCK2.out]
      have hown5 : MOwn (w4.drewN n5) B _ (acc ++ [(mk, mv)]) := hown4
      have hsz5 : B ≤ (w4.drewN n5).heap.size := hsz4
      have hbel5 := below_drewN hbel4 n5
      clear hown4 hsz4 hbel4 HCK2
      generalize w4.drewN n5 = w5 at *
      by_cases hent : entP acc.getLast? (mk, mv) = 0
      · have HP2 := Lib.hid (HPS.out hent)
        have HCK4 := Lib.hid (HCK3.out hent)
        rw [hent]
        clear hent HPS HPE HCK3
        go_wp2_with fail
        go_roundw
        case rel =>
          refine ⟨acc ++ [(mk, mv)], E + 1, by go_num, by simp, by simp; omega, by omega, hown5, HCK4, HBD2, ?_, hbel5, hsz5⟩
          show _ = _
          rw [← HP2.out]
          congr 1
          simp
        case measure => simp [intOf]; omega
      · have HP2 := Lib.hid (HPE.out hent)
        generalize entP acc.getLast? (mk, mv) = ee at *
        have hne0 : ((ee : Int) != 0) = true := by simp; omega
        go_wp2_with fail
        refine bodyPost_ret (v := .tuple #[.slice none 0 0, .int .i64 ((acc.length : Int) + 1), .int .i64 ee]) (by simp [results, Try.f51, go_sem]) rfl ⟨?_, by rw [← HB.out]; exact hbel5⟩
        rw [← HP2.out]
        rfl
    · have hd : decide ((p : Int) < (s.size : Int)) = false := by simp; omega
      rw [List.drop_of_length_le (by rw [HL.out]; omega), parGo_end] at hp
      have HP := Lib.hid hp
      clear hp
      go_wp2_with fail
      refine bodyPost_ret (v := .tuple #[.slice x5 acc.length c5, .int .i64 0, .int .i64 0]) (by simp [results, Try.f51, go_sem]) rfl ⟨?_, by rw [← HB.out]; exact hbel⟩
      rw [← HP.out]
      exact ⟨_, rfl, hown.row⟩
end Go.Proofs.Ytakileiomgaahaa
