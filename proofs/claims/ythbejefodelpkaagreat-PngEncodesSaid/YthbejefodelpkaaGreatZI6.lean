/-
  Walk: a match, in the program.
-/
import Derived.Test.YthbejefodelpkaaGreatZG
import Derived.Deep.RegionLaw
import Derived.Deep.AppendLies
namespace Go.Proofs.YthbejefodelpkaaGreat
open Go.RowKit

/-- 'append(out, x1, ..)' within a region that draws its order. -/
theorem step_app {P : Program} {w : World} {ops : Array Oper} {o : Oper} {a : Act} {K : Act → World → Prop} {Q : Exit → Act → World → Prop} {E : Prop} {t e : TypeId} {z : Value} {size bytes : Nat} (hE : Elem P t e z size bytes) (hgd : o.guard = none) {s x : Operand}
    (ho : o.op = .call { callee := .builtin .append, args := #[s, x], argTypes := #[t, t] }) {base : Nat} {v : Value} {n : Nat} {xs : List Value} (hs : a.eval s = v) (hown : w.ownsRow base e size v n xs) {cs : Array Value} {m k : Nat}
    (hx : a.eval x = .slice (some ⟨k, 0, none⟩) (m + 1) (m + 1)) (hb : Blk w k e cs) (hm : cs.size = (m + 1) * size) (h1 : ∀ u ∈ cs.toList, u.oneCell' = true) (hlen : (n + (m + 1)) * bytes ≤ 140737488355328) (h63 : n + (m + 1) ≤ maxLen) (hbase : base ≤ w.heap.size)
    (h : ∀ r cap w', w'.ownsRow base e size (.slice (some ⟨r, 0, none⟩) (n + (m + 1)) cap) (n + (m + 1)) (xs ++ cs.toList) → w.grownBy w' v.ownBlock → K (a.put o.dst (.slice (some ⟨r, 0, none⟩) (n + (m + 1)) cap)) w') :
    if Region.wanted o (yielded ops a.tmps) = true then Oper.wp P o a w K Q else E := by
  obtain ⟨ht, ⟨i, hi, hz, hsz, hby⟩, hzs, hp⟩ := hE
  exact step_append_lies (w := w) hgd s x t ho base e i z size bytes ht hi hz hsz hby hzs hp v n xs hs hown ⟨k, 0, none⟩ (m + 1) (m + 1) cs.toList hx (by simpa using hm) (World.news_of_block hb) h1 (by omega) h63 hlen hbase _ rfl fun g cap w' a1 a2 _ _ => h g cap w' a1 a2

theorem el_u8 : Elem Tryz.prog 54 5 (.int .u8 0) 1 1 := by
  refine ⟨Tryz.underlying54, ?_, rfl, by decide⟩
  exact info_parts (by kernel_rfl)
theorem row_shape {w : World} {b : Nat} {e : TypeId} {v : Value} {l : List UInt8} (h : BRow w b e v l) : ∃ x c, v = .slice x l.length c := by
  rcases h.2 with ⟨rfl, h0⟩ | ⟨g, cap, cur, rfl, _⟩
  · exact ⟨none, 0, by rw [h0]⟩
  · exact ⟨_, _, rfl⟩
/-- The stream in block zb stands at place p and has the output out. -/
def ZO (w : World) (B zb : Nat) (s : ByteArray) (p most : Nat) (out : List UInt8) : Prop :=
  ∃ v, Blk w zb 141 (zc s p most v) ∧ BRow w B 5 v out ∧ B ≤ zb
/-- What is written: the stream and its output. -/
abbrev FZ (B : Nat) (w w' : World) : Prop := Fr B [141, 5] w w'
theorem fz_of {zb B : Nat} {w w' : World} (h : Fr zb [141] w w') (hB : B ≤ zb) : FZ B w w' := h.mono hB (fun t ht => by simp at ht; simp [ht])
/-- Behind a reader: the stream stands elsewhere, its output is as it was. -/
theorem ZO.read {w w' : World} {B zb : Nat} {s : ByteArray} {p' most : Nat} {out : List UInt8} {v : Value} (hrow : BRow w B 5 v out) (hB : B ≤ zb) (hf : Fr zb [141] w w') (hz : Blk w' zb 141 (zc s p' most v)) : ZO w' B zb s p' most out :=
  ⟨v, hz, hf.owns hrow (by decide), hB⟩
def MatOk (s : ByteArray) (most B zb : Nat) (r : Except Nat (List UInt8 × List Bool)) (e : Ending) (w : World) : Prop :=
  match r with
  | .error k => e = .returned (.int .i64 k)
  | .ok (o, b) => e = .returned (.int .i64 0) ∧ ∃ p, p ≤ 8 * s.size ∧ b = bitsAt s p ∧ ZO w B zb s p most o
theorem numT_err {b : List Bool} {n k : Nat} (h : numT b n = .error k) : k ≠ 0 := by
  unfold numT at h
  split at h <;> cases h
  decide
theorem symGo_err (ls : List Nat) (f n c : Nat) (b : List Bool) (k : Nat) (h : symGo ls f n c b = .error k) : k ≠ 0 := by
  induction f generalizing n c b with
  | zero => cases h; decide
  | succ f ih =>
    cases b with
    | nil => cases h; decide
    | cons x b =>
      unfold symGo at h
      split at h
      · cases h
      · split at h
        · cases h; decide
        · exact ih _ _ _ h
theorem symT_err {ls : List Nat} {b : List Bool} {k : Nat} (h : symT ls b = .error k) : k ≠ 0 := symGo_err _ _ _ _ _ _ h
theorem lenB_small (s : Nat) (h0 : 257 ≤ s) (h1 : s ≤ 285) : (lenB s).1 ≤ 258 ∧ (lenB s).2 ≤ 5 ∧ 3 ≤ (lenB s).1 := by
  have key : ∀ s : Fin 286, 257 ≤ s.val → (lenB s.val).1 ≤ 258 ∧ (lenB s.val).2 ≤ 5 ∧ 3 ≤ (lenB s.val).1 := by decide +kernel
  exact key ⟨s, by omega⟩ h0
theorem disB_small (s : Nat) (h1 : s ≤ 29) : (disB s).1 ≤ 32768 ∧ (disB s).2 ≤ 13 ∧ 1 ≤ (disB s).1 := by
  have key : ∀ s : Fin 30, (disB s.val).1 ≤ 32768 ∧ (disB s.val).2 ≤ 13 ∧ 1 ≤ (disB s.val).1 := by decide +kernel
  exact key ⟨s, by omega⟩

set_option maxRecDepth 100000 in
set_option maxHeartbeats 8000000 in
theorem match_any (s : ByteArray) (p most B zb db sy : Nat) (out : List UInt8) (dl : List Nat) (w : World) (hz : ZO w B zb s p most out) (hd : Dec w db dl) (hl : dl.length ≤ 400) (hs : s.size ≤ 1000000000000000) (hp : p ≤ 8 * s.size) (h0 : 257 ≤ sy) (h1 : sy ≤ 285) (hm : most ≤ 1048576) (ho : out.length ≤ most) :
    Calls Tryz.prog 170 #[.pointer (some ⟨zb, 0, none⟩), .int .i64 sy, .pointer (some ⟨db, 0, none⟩)] w fun e w' => MatOk s most B zb (matT dl most out sy (bitsAt s p)) e w' ∧ FZ B w w' := by
  obtain ⟨v, hzb, hrow, hB⟩ := hz
  obtain ⟨hb1, hb2, hb3⟩ := lenB_small sy h0 h1
  have HL := Lib.hid (fun w => lengthBase_any sy w h0 h1)
  have HM : Hid (matT dl most out sy (bitsAt s p) = match numT (bitsAt s p) (lenB sy).2 with
    | .error e => .error e
    | .ok (x, b1) => match symT dl b1 with
      | .error e => .error e
      | .ok (t, b2) => if 29 < t then .error 4 else match numT b2 (disB t).2 with
        | .error e => .error e
        | .ok (y, b3) => if out.length < (disB t).1 + y then .error 4 else if most < out.length + ((lenB sy).1 + x) then .error 3 else .ok (copyB out ((lenB sy).1 + x) ((disB t).1 + y), b3)) := rfl
  unfold pairV at HL
  generalize (lenB sy).1 = lb at *
  generalize (lenB sy).2 = lx at *
  go_enter Tryz.func170, Tryz.ntmps170
  go_wp2_with fail
  refine (HL.out _).mono ?_
  rintro e w1 ⟨rfl, rfl⟩
  clear HL
  go_wp2_with fail
  refine (number_any s p lx most zb v _ hzb hs hp (by omega)).mono ?_
  rintro e w1 ⟨hok, hf1⟩
  have hst := hok.st hp
  have hfz1 := fz_of hf1 hB
  have hd1 := hd.fr hf1 (by decide) (by decide)
  have hrow1 := hf1.owns hrow (by decide)
  clear hok hd hrow hzb
  cases hn1 : numT (bitsAt s p) lx with
  | error k =>
    rw [hn1] at hst
    obtain ⟨rfl, -⟩ := hst
    have HE : Hid (matT dl most out sy (bitsAt s p) = .error k) := by show _ = _; rw [HM.out, hn1]
    have hk := numT_err hn1
    have hk1 : ((k : Int) != 0) = true := by simp; omega
    clear hn1 HM
    go_wp2_with fail
    go_ret
    refine ⟨?_, hfz1⟩
    rw [HE.out]; rfl
  | ok xb =>
    obtain ⟨x, b1⟩ := xb
    rw [hn1] at hst
    obtain ⟨rfl, p1, hp1, rfl, hz1⟩ := hst
    have hx := (numT_ok hn1).2.2.2
    have HM1 : Hid (matT dl most out sy (bitsAt s p) = match symT dl (bitsAt s p1) with
      | .error e => .error e
      | .ok (t, b2) => if 29 < t then .error 4 else match numT b2 (disB t).2 with
        | .error e => .error e
        | .ok (y, b3) => if out.length < (disB t).1 + y then .error 4 else if most < out.length + (lb + x) then .error 3 else .ok (copyB out (lb + x) ((disB t).1 + y), b3)) := by show _ = _; rw [HM.out, hn1]
    have hx5 : x < 32 := Nat.lt_of_lt_of_le hx (by have : 2 ^ lx ≤ 2 ^ 5 := Nat.pow_le_pow_right (by omega) (by omega); simpa using this)
    clear hn1 HM hx
    go_wp2_with fail
    refine (symbol_any s p1 most zb db v dl _ hz1 hd1 hl hs hp1).mono ?_
    rintro e w2 ⟨hst, hf2⟩
    have hfz2 := hfz1.trans (fz_of hf2 hB)
    have hrow2 := hf2.owns hrow1 (by decide)
    clear hd1 hrow1 hz1 hf1 hf2
    cases hn2 : symT dl (bitsAt s p1) with
    | error k =>
      rw [hn2] at hst
      obtain ⟨rfl, -⟩ := hst
      have HE : Hid (matT dl most out sy (bitsAt s p) = .error k) := by show _ = _; rw [HM1.out, hn2]
      have hk := symT_err hn2
      have hk1 : ((k : Int) != 0) = true := by simp; omega
      clear hn2 HM1
      go_wp2_with fail
      go_ret
      refine ⟨?_, hfz2⟩
      rw [HE.out]; rfl
    | ok tb =>
      obtain ⟨t, b2⟩ := tb
      rw [hn2] at hst
      obtain ⟨rfl, p2, hp2, rfl, hz2⟩ := hst
      have HM2 : Hid (matT dl most out sy (bitsAt s p) = if 29 < t then .error 4 else match numT (bitsAt s p2) (disB t).2 with
        | .error e => .error e
        | .ok (y, b3) => if out.length < (disB t).1 + y then .error 4 else if most < out.length + (lb + x) then .error 3 else .ok (copyB out (lb + x) ((disB t).1 + y), b3)) := by show _ = _; rw [HM1.out, hn2]
      clear hn2 HM1
      by_cases ht : 29 < t
      · have HE : Hid (matT dl most out sy (bitsAt s p) = .error 4) := by show _ = _; rw [HM2.out, if_pos ht]
        have d1 : decide ((29 : Int) < (t : Int)) = true := by simp; omega
        clear HM2
        go_wp2_with fail
        go_ret
        refine ⟨?_, hfz2⟩
        rw [HE.out]; rfl
      have d1 : decide ((29 : Int) < (t : Int)) = false := by simp; omega
      obtain ⟨hc1, hc2, hc3⟩ := disB_small t (by omega)
      have HDB := Lib.hid (fun w => distanceBase_any t w (by omega))
      unfold pairV at HDB
      have HM3 : Hid (matT dl most out sy (bitsAt s p) = match numT (bitsAt s p2) (disB t).2 with
        | .error e => .error e
        | .ok (y, b3) => if out.length < (disB t).1 + y then .error 4 else if most < out.length + (lb + x) then .error 3 else .ok (copyB out (lb + x) ((disB t).1 + y), b3)) := by show _ = _; rw [HM2.out, if_neg ht]
      clear HM2
      generalize (disB t).1 = tb at *
      generalize (disB t).2 = tx at *
      go_wp2_with fail
      refine (HDB.out _).mono ?_
      rintro e w3 ⟨rfl, rfl⟩
      clear HDB
      go_wp2_with fail
      refine (number_any s p2 tx most zb v _ hz2 hs hp2 (by omega)).mono ?_
      rintro e w3 ⟨hok, hf3⟩
      have hst := hok.st hp2
      have hfz3 := hfz2.trans (fz_of hf3 hB)
      have hrow3 := hf3.owns hrow2 (by decide)
      clear hok hrow2 hz2 hf3
      cases hn3 : numT (bitsAt s p2) tx with
      | error k =>
        rw [hn3] at hst
        obtain ⟨rfl, -⟩ := hst
        have HE : Hid (matT dl most out sy (bitsAt s p) = .error k) := by show _ = _; rw [HM3.out, hn3]
        have hk := numT_err hn3
        have hk1 : ((k : Int) != 0) = true := by simp; omega
        clear hn3 HM3
        go_wp2_with fail
        go_ret
        refine ⟨?_, hfz3⟩
        rw [HE.out]; rfl
      | ok yb =>
        obtain ⟨y, b3⟩ := yb
        rw [hn3] at hst
        obtain ⟨rfl, p3, hp3, rfl, hz3⟩ := hst
        have hy := (numT_ok hn3).2.2.2
        have hy13 : y < 8192 := Nat.lt_of_lt_of_le hy (by have : 2 ^ tx ≤ 2 ^ 13 := Nat.pow_le_pow_right (by omega) (by omega); simpa using this)
        have HM4 : Hid (matT dl most out sy (bitsAt s p) = if out.length < tb + y then .error 4 else if most < out.length + (lb + x) then .error 3 else .ok (copyB out (lb + x) (tb + y), bitsAt s p3)) := by show _ = _; rw [HM3.out, hn3]
        clear hn3 HM3 hy
        obtain ⟨x3, c3, rfl⟩ := row_shape hrow3
        have k2 := hz3.cell 2
        have k3 := hz3.cell 3
        simp [zc] at k2 k3
        by_cases hdist : out.length < tb + y
        · have HE : Hid (matT dl most out sy (bitsAt s p) = .error 4) := by show _ = _; rw [HM4.out, if_pos hdist]
          have d2 : decide ((out.length : Int) < (tb : Int) + (y : Int)) = true := by simp; omega
          clear HM4
          go_wp2_with fail
          go_ret
          refine ⟨?_, hfz3⟩
          rw [HE.out]; rfl
        have d2 : decide ((out.length : Int) < (tb : Int) + (y : Int)) = false := by simp; omega
        have w1 : IntKind.i64.wrap ((out.length : Int) + ((lb : Int) + (x : Int))) = (out.length : Int) + ((lb : Int) + (x : Int)) := IntWalk.i64_in _ (by omega)
        by_cases hlim : most < out.length + (lb + x)
        · have HE : Hid (matT dl most out sy (bitsAt s p) = .error 3) := by show _ = _; rw [HM4.out, if_neg hdist, if_pos hlim]
          have d3 : decide ((most : Int) < (out.length : Int) + ((lb : Int) + (x : Int))) = true := by simp; omega
          clear HM4
          go_wp2_with fail
          go_quiet (fail)
          clear w1
          go_wp2_with fail
          go_ret
          refine ⟨?_, hfz3.drewN _⟩
          rw [HE.out]; rfl
        have d3 : decide ((most : Int) < (out.length : Int) + ((lb : Int) + (x : Int))) = false := by simp; omega
        have HE : Hid (matT dl most out sy (bitsAt s p) = .ok (copyB out (lb + x) (tb + y), bitsAt s p3)) := by show _ = _; rw [HM4.out, if_neg hdist, if_neg hlim]
        clear HM4
        go_wp2_with fail
        go_quiet (fail)
        clear w1
        go_wp2_with fail
        have hz4 := hz3.drewN nq
        have hrow4 : BRow (w3.drewN nq) B 5 (.slice x3 out.length c3) out := hrow3
        have hfz4 : FZ B w (w3.drewN nq) := hfz3.drewN nq
        have hsz4 : B ≤ (w3.drewN nq).heap.size := Nat.le_of_lt (Nat.lt_of_le_of_lt hB hz3.lt)
        clear hz3 hrow3 hfz3 k2 k3 d2 d3
        generalize w3.drewN nq = w4 at *
        have HD1 : Hid (1 ≤ tb + y) := by show 1 ≤ _; omega
        go_loopw [78] (fun vi wr => ∃ (i : Nat) (acc : List UInt8) (va : Value), vi = .int .i64 i ∧ i ≤ lb + x ∧ acc.length = out.length + i ∧ Hid (copyB acc (lb + x - i) (tb + y) = copyB out (lb + x) (tb + y)) ∧ Blk wr zb 141 (zc s p3 most va) ∧ BRow wr B 5 va acc ∧ FZ B w wr ∧ B ≤ wr.heap.size) (fun vi _ => lb + x - (intOf vi).toNat)
        case atStart => exact ⟨0, out, _, rfl, Nat.zero_le _, rfl, rfl, hz4, hrow4, hfz4, hsz4⟩
        case round =>
          clear hz4 hrow4 hfz4 hsz4
          obtain ⟨i, acc, va, rfl, hi, hal, hcp, hzr, hrow, hfr, hszr⟩ := hrel
          obtain ⟨xa, ca, rfl⟩ := row_shape hrow
          by_cases hlt : i < lb + x
          · have hd : decide ((i : Int) < (lb : Int) + (x : Int)) = true := by simp; omega
            obtain ⟨A, hA⟩ : ∃ A, A = acc.length := ⟨_, rfl⟩
            have hdl : tb + y ≤ A := by omega
            obtain ⟨q, hq⟩ : ∃ q, q = A - (tb + y) := ⟨_, rfl⟩
            have hqA : q < A := by have := HD1.out; omega
            obtain ⟨g, cap, cur, hv, hgB, hgg, -⟩ : ∃ g cap cur, Value.slice xa acc.length ca = .slice (some ⟨g, 0, none⟩) acc.length cap ∧ B ≤ g ∧ wr.heap[g]? = some (.cells cur 5 (0, 0)) ∧ True := by
              rcases hrow.2 with ⟨hn, h0⟩ | ⟨g, cap, cur, hv, hgB, hgg, _⟩
              · omega
              · exact ⟨g, cap, cur, hv, hgB, hgg, trivial⟩
            cases hv
            have hcell : wr.cell? ⟨g, q, none⟩ = some (.int .u8 ((acc.getD q 0).toNat : Int)) := by
              have hql : q < acc.length := by omega
              have := World.ownsRow.cells hrow (g := g) rfl q _ (bcells_get acc q hql)
              rw [Addr.add_lit, Nat.zero_add] at this
              rw [this]
              simp [List.getD, hql]
            have HCP : Hid (copyB (acc ++ [acc.getD q 0]) (lb + x - (i + 1)) (tb + y) = copyB out (lb + x) (tb + y)) := by
              show _ = _
              rw [← hcp.out, show lb + x - i = (lb + x - (i + 1)) + 1 from by omega]
              rw [copyB, hq, hA]
            generalize acc.getD q 0 = cb at *
            have hcb := cb.toNat_lt
            have k3 := hzr.cell 3
            simp [zc] at k3
            have HA := Lib.hid hA
            have hz1 : IntKind.i64.wrap ((A : Int) - ((tb : Int) + (y : Int))) = (q : Int) := by rw [IntKind.wrap_i64]; omega
            have hz2 : (0 : Int) ≤ (q : Int) := by omega
            have hz3 : (q : Int) < (A : Int) := by omega
            have hz4 : ((q : Int)).toNat = q := by omega
            have hA2 : A ≤ 1048576 := by omega
            have HOWN : Hid ((wr.alloc (.cells #[.int .u8 (cb.toNat : Int)] 5)).drew.ownsRow B 5 1 (.slice (some ⟨g, 0, none⟩) A ca) A (bcells acc)) := by
              have := World.ownsRow.alloc hrow (.cells #[.int .u8 (cb.toNat : Int)] 5)
              rw [← hA] at this
              exact this
            have HBLK : Hid (Blk (wr.alloc (.cells #[.int .u8 (cb.toNat : Int)] 5)).drew wr.heap.size 5 #[.int .u8 (cb.toNat : Int)]) := Blk.new wr _ _
            have HBAS : Hid (B ≤ (wr.alloc (.cells #[.int .u8 (cb.toNat : Int)] 5)).drew.heap.size) := by
              show B ≤ (wr.alloc _).heap.size
              simp; omega
            have hgz : g ≠ zb := by
              intro e
              rw [e] at hgg
              exact absurd (Blk.uniq hzr hgg).1 (by decide)
            have HZ4 : Hid (∀ w4, (wr.alloc (.cells #[.int .u8 (cb.toNat : Int)] 5)).drew.grownBy w4 (some g) → Blk w4 zb 141 (zc s p3 most (.slice (some ⟨g, 0, none⟩) A ca))) := by
              intro w4 hg
              have h1 : Blk (wr.alloc (.cells #[.int .u8 (cb.toNat : Int)] 5)).drew zb 141 (zc s p3 most (.slice (some ⟨g, 0, none⟩) A ca)) := by rw [hA]; exact hzr.alloc _
              exact (hg.block zb h1.lt (by simp; exact fun e => hgz e.symm)).trans h1
            have HFR : Hid (∀ w4, (wr.alloc (.cells #[.int .u8 (cb.toNat : Int)] 5)).drew.grownBy w4 (some g) → FZ B w w4) := by
              intro w4 hg
              exact ((hfr.alloc _).drew).grown HOWN.out (Nat.le_refl _) (by decide) hg
            have ka := (hzr.alloc (.cells #[.int .u8 (cb.toNat : Int)] 5)).cell 3
            simp [zc] at ka
            rw [← hA] at k3 ka
            rw [← hA] at hal
            have HAL := Lib.hid hal
            clear hA hq hgg hcp hal
            go_wp2_with fail
            go_region_law ((refine step_app el_u8 (s := .tmp 84) (x := .tmp 98) rfl rfl (by simp [Act.eval]) HOWN.out (m := 0) (by simp [Act.eval]) HBLK.out rfl (by simp [Value.oneCell']) (by omega) (by unfold maxLen; omega) HBAS.out ?_; intro r2 cap2 w5 ho5 hg5; have hz5 := HZ4.out w5 hg5; have k35 := hz5.cell 3; have f35 := hz5.frozen 3; simp [zc] at k35))
            all_goals
              have hrow5 := brow_more ho5 [cb] (by simp [bcells]) (by have := HA.out; simp; omega)
              have hfr5 := HFR.out w5 hg5
              have hput := hz5.put 3 (.slice (some ⟨r2, 0, none⟩) (A + 1) cap2)
              have hf6 : Fr zb [141] w5 (w5.setCell ⟨zb, 3, none⟩ (.slice (some ⟨r2, 0, none⟩) (A + 1) cap2)) := (Fr.refl _ _ _).put hz5 (Nat.le_refl _) (by simp) 3 _
              have hrow6 := hf6.owns hrow5 (by decide)
              have hfr6 := hfr5.put hz5 hB (by simp) 3 (.slice (some ⟨r2, 0, none⟩) (A + 1) cap2)
              have hsz6 : B ≤ (w5.setCell ⟨zb, 3, none⟩ (.slice (some ⟨r2, 0, none⟩) (A + 1) cap2)).heap.size := Nat.le_trans (Nat.le_trans HBAS.out hg5.size) hf6.size
              have HPUT := Lib.hid hput
              have HROW := Lib.hid hrow6
              have HFR6 := Lib.hid hfr6
              have HSZ6 := Lib.hid hsz6
              clear hput hrow6 hfr6 hsz6 hf6 hfr5 hrow5 ho5 hg5 hz5 k35 f35 HOWN HBLK HBAS HZ4 HFR hz1 hz2 hz3 hz4 k3 ka hcell hrow hzr hfr hszr
              go_wp2_with fail
              refine ⟨⟨i + 1, acc ++ [cb], _, by go_num, by omega, ?_, HCP, ?_, HROW.out, HFR6.out, HSZ6.out⟩, by simp [intOf]; omega⟩
              · have h1 := HA.out; have h2 := HAL.out; simp; omega
              · have := HPUT.out
                simpa [zc] using this
          · have hd : decide ((i : Int) < (lb : Int) + (x : Int)) = false := by simp; omega
            obtain rfl : i = lb + x := by omega
            have HC : Hid (acc = copyB out (lb + x) (tb + y)) := by have := hcp.out; rwa [Nat.sub_self] at this
            go_wp2_with fail
            go_ret
            refine ⟨?_, hfr⟩
            rw [HE.out, ← HC.out]
            exact ⟨rfl, p3, hp3, rfl, _, hzr, hrow, hB⟩
end Go.Proofs.YthbejefodelpkaaGreat
