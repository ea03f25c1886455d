/-
  Walk: path.Print: the text of a path.
-/
import Derived.Test.YtgjbelcnkmcbiaaDoorQn
import Derived.Test.YtgjbelcnkmcbiaaDoorQt
import Derived.Test.YtgjbelcnkmcbiaaDoorQg
import Derived.Test.YtgjbelcnkmcbiaaDoorQu
namespace Go.Proofs.YtgjbelcnkmcbiaaDoor
open Go.RowKit

/-- The slice value v owns a row of strings. -/
def strs (ws : List (List UInt8)) : List Value := ws.map fun x => Value.string ⟨x.toArray⟩
def WOwn (w : World) (B : Nat) (v : Value) (ws : List (List UInt8)) : Prop := w.ownsRow B 9 1 v ws.length (strs ws)
theorem WOwn.shape {w : World} {B : Nat} {v : Value} {l : List (List UInt8)} (h : WOwn w B v l) : ∃ x c, v = .slice x l.length c := by
  rcases h.2 with ⟨rfl, h0⟩ | ⟨g, cap, cur, rfl, _⟩
  · exact ⟨none, 0, by rw [h0]⟩
  · exact ⟨_, _, rfl⟩
theorem el_str : Elem Tryd.prog 68 9 (.string ⟨#[]⟩) 1 16 := by
  refine ⟨Tryd.underlying68, ?_, rfl, by decide⟩
  exact info_parts (by kernel_rfl)
theorem WOwn.more {w : World} {B n : Nat} {v : Value} {ws new : List (List UInt8)} {xs : List Value} (h : w.ownsRow B 9 1 v n (strs ws ++ xs)) (hx : xs = strs new) (hn : n = ws.length + new.length) : WOwn w B v (ws ++ new) := by
  subst hx; subst hn
  unfold WOwn
  rw [show strs (ws ++ new) = strs ws ++ strs new by simp [strs], List.length_append]
  exact h
theorem itoa_len (v : Int) (h0 : -9223372036854775808 ≤ v) (h1 : v ≤ 9223372036854775807) : (Lib.itoa v).length ≤ 21 := by
  unfold Lib.itoa
  split
  · have := dec_len 19 v.natAbs (by omega)
    simp; omega
  · have := dec_len 19 v.toNat (by omega)
    omega
theorem joinP_len (ws : List (List UInt8)) (h : ∀ x ∈ ws, x.length ≤ 21) : (joinP ws).length ≤ 22 * ws.length := by
  induction ws with
  | nil => simp [joinP]
  | cons a r ih =>
    have h1 := ih (fun x hx => h x (by simp [hx]))
    have h2 := h a (by simp)
    cases r with
    | nil => simp [joinP]; omega
    | cons b r => simp [joinP] at h1 ⊢; omega
theorem join_any (v : Value) (ws : List (List UInt8)) (w : World) {B : Nat} (ho : WOwn w B v ws) (hl : ws.length ≤ 1000) (hx : ∀ x ∈ ws, x.length ≤ 21) :
    Calls Tryd.prog 46 #[v, .string ⟨#[32]⟩] w fun e w' => e = .returned (.string ⟨(joinP ws).toArray⟩) ∧ Below w.heap.size w w' := by
  have hd : (ws.map fun x => (⟨x.toArray⟩ : ByteArray)).map (fun b => b.data.toList) = ws := by simp [Function.comp_def]
  rcases id ho.2 with ⟨rfl, h0⟩ | ⟨g, cap, cur, rfl, _, hg, hc, hm, _⟩
  · have : ws = [] := List.eq_nil_of_length_eq_zero h0
    subst this
    refine (Tryd.strings_Join_none none 0 ⟨#[32]⟩ w).mono ?_
    rintro e w' ⟨rfl, rfl⟩
    exact ⟨rfl, Below.refl _ _⟩
  · have h := Tryd.strings_Join g 0 cap (ws.map fun x => (⟨x.toArray⟩ : ByteArray)) ⟨#[32]⟩ w
    rw [List.length_map, hd] at h
    have hj : Lib.join ws [32] = joinP ws := joinP_inter ws
    rw [show ((⟨#[32]⟩ : ByteArray).data.toList) = [32] from rfl, hj] at h
    refine h ?_ (World.ownsRow.lt ho g rfl).2 (by omega) hc (by have := joinP_len ws hx; omega)
    intro j x hj2
    rw [List.getElem?_map] at hj2
    cases he : ws[j]? with
    | none => rw [he] at hj2; cases hj2
    | some y =>
      rw [he] at hj2
      injection hj2 with hj2
      obtain ⟨hlt, hy⟩ := List.getElem?_eq_some_iff.1 he
      have a1 := World.ownsRow.cellAt ho j (by omega)
      rw [Nat.zero_add, a1]
      simp [strs, he, hj2]
theorem seg_len (s : Sg) : (segW s).length = 1 + 2 * usedP s.1 := by
  unfold segW
  have := used_le s.1
  simp [nums]; omega
theorem words_len (l : List Sg) : (wordsP l).length ≤ 7 * l.length := by
  induction l with
  | nil => simp [wordsP]
  | cons s r ih =>
    have h1 := seg_len s
    have h2 := used_le s.1
    rw [show s :: r = [s] ++ r from rfl, words_append]
    simp [wordsP] at ih ⊢; omega
theorem let_len (k : Int) : (letP k).length = 1 := by unfold letP; (repeat' split) <;> rfl
theorem words_x (l : List Sg) (h : ∀ s ∈ l, ptsBad s = false) : ∀ x ∈ wordsP l, x.length ≤ 21 := by
  intro x hx
  unfold wordsP at hx
  obtain ⟨s, hs, hx⟩ := List.mem_flatMap.1 hx
  unfold segW at hx
  rcases List.mem_cons.1 hx with rfl | hx
  · rw [let_len]; omega
  · obtain ⟨v, hv, rfl⟩ := List.mem_map.1 hx
    have hv := List.mem_of_mem_take hv
    obtain ⟨n1, n2, n3⟩ := near_pts (h s hs)
    unfold nearP near24 at n1 n2 n3
    have hb : -16777216 ≤ v ∧ v ≤ 16777216 := by
      simp [nums] at hv
      rcases hv with rfl | rfl | rfl | rfl | rfl | rfl <;> omega
    exact itoa_len v (by omega) (by omega)
theorem words_take (l : List Sg) (i : Nat) (h : i < l.length) : wordsP (l.take (i + 1)) = wordsP (l.take i) ++ segW l[i] := by
  rw [List.take_succ_eq_append_getElem h, words_append]; simp [wordsP]
/-- The words of a segment so far. -/
def segJ (s : Sg) (j : Nat) : List (List UInt8) := letP s.1 :: ((nums s).take (2 * j)).map Lib.itoa
theorem segJ_succ (s : Sg) (j : Nat) (h : j < 3) : segJ s (j + 1) = segJ s j ++ [Lib.itoa (s.pt j).1, Lib.itoa (s.pt j).2] := by
  rcases (by omega : j = 0 ∨ j = 1 ∨ j = 2) with rfl | rfl | rfl <;> rfl
theorem segJ_len (s : Sg) (j : Nat) (h : j ≤ 3) : (segJ s j).length = 1 + 2 * j := by unfold segJ; simp [nums]; omega
theorem letters (k : Int) (h1 : 1 ≤ k) (h5 : k ≤ 5) : (⟨#[77, 76, 81, 67, 90]⟩ : ByteArray).extract (k.toNat - 1) k.toNat = ⟨(letP k).toArray⟩ := by
  rcases (by omega : k = 1 ∨ k = 2 ∨ k = 3 ∨ k = 4 ∨ k = 5) with rfl | rfl | rfl | rfl | rfl <;> rfl
theorem pt_cells {W : World} {kb : Nat} {k ax ay bx by_ cx cy : Int} (h : Blk W kb 35 #[.int .i64 k, .int .i64 ax, .int .i64 ay, .int .i64 bx, .int .i64 by_, .int .i64 cx, .int .i64 cy]) (j : Nat) (hj : j < 3) :
    W.cell? ⟨kb, 1 + j * 2, none⟩ = some (.int .i64 (Sg.pt (k, (ax, ay), (bx, by_), cx, cy) j).1) ∧ W.cell? ⟨kb, 1 + j * 2 + 1, none⟩ = some (.int .i64 (Sg.pt (k, (ax, ay), (bx, by_), cx, cy) j).2) := by
  rcases (by omega : j = 0 ∨ j = 1 ∨ j = 2) with rfl | rfl | rfl <;> exact ⟨h.cell _, h.cell _⟩
/-- 'append(out, x1, ..)' within a region that draws its order. -/
theorem step_appS {P : Program} {w : World} {ops : Array Oper} {o : Oper} {a : Act} {K : Act → World → Prop} {Q : Exit → Act → World → Prop} {E : Prop} {t e : TypeId} {z : Value} {size bytes : Nat} (hE : Elem P t e z size bytes) (hgd : o.guard = none) {s x : Operand}
    (ho : o.op = .call { callee := .builtin .append, args := #[s, x], argTypes := #[t, t] }) {base : Nat} {v : Value} {n : Nat} {xs : List Value} (hs : a.eval s = v) (hown : w.ownsRow base e size v n xs) {cs : Array Value} {m k : Nat}
    (hx : a.eval x = .slice (some ⟨k, 0, none⟩) (m + 1) (m + 1)) (hb : Blk w k e cs) (hm : cs.size = (m + 1) * size) (h1 : ∀ u ∈ cs.toList, u.oneCell' = true) (hlen : (n + (m + 1)) * bytes ≤ 140737488355328) (h63 : n + (m + 1) ≤ maxLen) (hbase : base ≤ w.heap.size)
    (h : ∀ r cap w', w'.ownsRow base e size (.slice (some ⟨r, 0, none⟩) (n + (m + 1)) cap) (n + (m + 1)) (xs ++ cs.toList) → w.grownBy w' v.ownBlock → K (a.put o.dst (.slice (some ⟨r, 0, none⟩) (n + (m + 1)) cap)) w') :
    if Region.wanted o (yielded ops a.tmps) = true then Oper.wp P o a w K Q else E := by
  obtain ⟨ht, ⟨i, hi, hz, hsz, hby⟩, hzs, hp⟩ := hE
  exact step_append_lies (w := w) hgd s x t ho base e i z size bytes ht hi hz hsz hby hzs hp v n xs hs hown ⟨k, 0, none⟩ (m + 1) (m + 1) cs.toList hx (by simpa using hm) (World.news_of_block hb) h1 (by omega) h63 hlen hbase _ rfl fun g cap w' a1 a2 _ _ => h g cap w' a1 a2
/-- What Print answers. -/
def PrOk (l : List Sg) (e : Ending) : Prop := e = .returned (if chkP l = 0 then .tuple #[.string ⟨(printP l).toArray⟩, .int .i64 0] else .tuple #[.string ⟨#[]⟩, .int .i64 (chkP l)])

set_option maxRecDepth 100000 in
set_option maxHeartbeats 4000000 in
theorem print_any (v : Value) (l : List Sg) (w : World) (hr : SRow w v l) (hd : Ldd w) : Calls Tryd.prog 23 #[v] w fun e w' => PrOk l e ∧ Below w.heap.size w w' := by
  have HCK := Lib.hid (check_any v l w hr)
  obtain ⟨x, c, rfl, hc1, hc2, -⟩ := id hr
  unfold maxLen at hc2
  have HSR := Lib.hid hr
  have HT := Lib.hid hd.tab
  clear hr hd
  by_cases h0 : chkP l = 0
  · have hall := Lib.hid (chk_all h0)
    have hln := (chkP_ok h0).1
    have HR : Hid (∀ e, PrOk l e = (e = .returned (.tuple #[.string ⟨(printP l).toArray⟩, .int .i64 0]))) := by
      intro e; unfold PrOk; rw [if_pos h0]
    rw [h0] at HCK
    clear h0
    go_enter Tryd.func23, Tryd.ntmps23
    go_wp2_with fail
    refine HCK.out.mono ?_
    rintro e w1 ⟨rfl, hb1⟩
    have HB1 : Hid (Fr w.heap.size [9] w w1) := Fr.of_below hb1 _
    clear hb1 HCK
    go_wp2_with fail
    go_loopw [5, 17] (fun vo vi wr => ∃ (i : Nat) (ws : List (List UInt8)) (O : Value), O = vo ∧ vi = .int .i64 i ∧ i ≤ l.length ∧ Hid (ws = wordsP (l.take i)) ∧ Hid (WOwn wr w.heap.size O ws) ∧ Hid (Fr w.heap.size [9] w wr)) (fun _ vi _ => l.length - (intOf vi).toNat)
    case atStart => exact ⟨0, [], _, rfl, rfl, Nat.zero_le _, rfl, World.ownsRow_nil _ _ _ _, HB1.out⟩
    case round =>
      obtain ⟨i, ws, O, rfl, rfl, hi, hws, hwo, hfr⟩ := hrel
      by_cases hlt : i < l.length
      · have hd : decide ((i : Int) < (l.length : Int)) = true := by simp; omega
        have hrw := HSR.out.below (hfr.out.below (Nat.le_refl _))
        obtain ⟨bb, off, rfl, hcl, -⟩ := hrw.at i hlt
        have hq := hcl i hlt
        have hso := hall.out l[i] (List.getElem_mem hlt)
        have HST := Lib.hid (words_take l i hlt)
        have hwl : ws.length ≤ 7 * i := by rw [hws.out]; have := words_len (l.take i); simp at this; omega
        obtain ⟨s, hm⟩ : ∃ s : Sg, l[i] = s := ⟨_, rfl⟩
        rw [hm] at hq hso HST
        rw [← hws.out] at HST
        obtain ⟨xo, co, rfl⟩ := hwo.out.shape
        clear hws hm hrw hcl
        obtain ⟨k, ⟨ax, ay⟩, ⟨bx, by_⟩, ⟨cx, cy⟩⟩ := s
        obtain ⟨hk1, hk5, hbad⟩ := hso
        obtain ⟨q1, q2, q3, q4, q5, q6, q7⟩ := hq
        simp only at q1 q2 q3 q4 q5 q6 q7
        have HN := Lib.hid (near_pts hbad)
        obtain ⟨SL, hSL⟩ : ∃ SL : ByteArray, SL = ⟨(letP k).toArray⟩ := ⟨_, rfl⟩
        have hlt' := letters k hk1 hk5
        rw [← hSL] at hlt'
        have HSL := Lib.hid hSL
        clear hSL
        have HU := Lib.hid (used_any k)
        have hu3 := used_le k
        clear hbad
        have HSG : Hid (segW (k, (ax, ay), (bx, by_), cx, cy) = segJ (k, (ax, ay), (bx, by_), cx, cy) (usedP k)) := rfl
        have HB0 := Blk.new wr 35 #[.int .i64 k, .int .i64 ax, .int .i64 ay, .int .i64 bx, .int .i64 by_, .int .i64 cx, .int .i64 cy]
        have HFA : Hid (Fr w.heap.size [9] w (wr.alloc (.cells #[.int .i64 k, .int .i64 ax, .int .i64 ay, .int .i64 bx, .int .i64 by_, .int .i64 cx, .int .i64 cy] 35))) := hfr.out.alloc _
        have HWA : Hid (WOwn (wr.alloc (.cells #[.int .i64 k, .int .i64 ax, .int .i64 ay, .int .i64 bx, .int .i64 by_, .int .i64 cx, .int .i64 cy] 35)) w.heap.size (.slice xo ws.length co) ws) := World.ownsRow.alloc hwo.out _
        have y0 : (wr.alloc (.cells #[.int .i64 k, .int .i64 ax, .int .i64 ay, .int .i64 bx, .int .i64 by_, .int .i64 cx, .int .i64 cy] 35)).cell? ⟨wr.heap.size, 0, none⟩ = some (.int .i64 k) := HB0.cell 0
        have hmax : maxLen = 9223372036854775807 := rfl
        go_upto_region 8 with fail
        clear q1 q2 q3 q4 q5 q6 q7 hwo hfr
        generalize wr.alloc (.cells #[.int .i64 k, .int .i64 ax, .int .i64 ay, .int .i64 bx, .int .i64 by_, .int .i64 cx, .int .i64 cy] 35) = wz at *
        generalize wr.heap.size = kb at *
        simp only at hk1 hk5
        have ek : wrap64 (k - 1) = k - 1 := wrap64_of _ (by omega)
        have e1 : (0 : Int) ≤ k - 1 := by omega
        have e2 : k - 1 ≤ k := by omega
        have HWB : Hid (w.heap.size ≤ wz.heap.size) := HFA.out.size
        go_wp2_with (refine wpList_app (P := Tryd.prog) el_str (hown := HWA.out) (by exact HWB.out) rfl rfl rfl (m := 0) (cs := #[.string SL]) rfl (by intro z hz; simp at hz; rw [hz]; rfl) rfl (by omega) (by omega) ?_)
        intro r cap' w5 h5 hg5 hr5
        have hne : 35 ∉ [9] := by decide
        have hF5 := ((Fr.refl w.heap.size [9] wz).alloc (.cells #[.string SL] 9)).grown (World.ownsRow.alloc HWA.out _) (Nat.le_refl _) (by simp) hg5
        have HF5 : Hid (Fr w.heap.size [9] w w5) := HFA.out.trans hF5
        have HK5 := hF5.blk HB0 hne
        have HW5 : Hid (WOwn w5 w.heap.size (.slice (some ⟨r, 0, none⟩) (ws.length + 1) cap') (ws ++ segJ (k, (ax, ay), (bx, by_), cx, cy) 0)) := WOwn.more (new := segJ (k, (ax, ay), (bx, by_), cx, cy) 0) h5 (by rw [HSL.out]; rfl) (by rw [segJ_len _ _ (by omega)])
        have y1 : w5.cell? ⟨kb, 0, none⟩ = some (.int .i64 k) := HK5.cell 0
        have HK5 := Lib.hid HK5
        clear h5 hg5 hr5 hF5 HFA HWA HB0 y0 hlt' HSL
        go_wp2_with (refine (HU.out _).mono ?_)
        rintro e w6 ⟨rfl, rfl⟩
        have HPT := Lib.hid (fun (W : World) (h : Blk W kb 35 #[.int .i64 k, .int .i64 ax, .int .i64 ay, .int .i64 bx, .int .i64 by_, .int .i64 cx, .int .i64 cy]) j hj => pt_cells h j hj)
        obtain ⟨s, hs⟩ : ∃ s : Sg, (k, (ax, ay), (bx, by_), cx, cy) = s := ⟨_, rfl⟩
        rw [hs] at HPT HW5 HST HSG
        have HNS : Hid (∀ j, j < 3 → -9223372036854775808 ≤ (s.pt j).1 ∧ (s.pt j).1 ≤ 9223372036854775807 ∧ -9223372036854775808 ≤ (s.pt j).2 ∧ (s.pt j).2 ≤ 9223372036854775807) := by
          intro j hj
          obtain ⟨n1, n2, n3⟩ := HN.out
          unfold nearP near24 at n1 n2 n3
          rcases (by omega : j = 0 ∨ j = 1 ∨ j = 2) with rfl | rfl | rfl <;> rw [← hs] <;> simp [Sg.pt] <;> omega
        clear hs HN
        obtain ⟨u, hu⟩ : ∃ u, usedP k = u := ⟨_, rfl⟩
        rw [hu] at hu3 HSG
        have hu4 : (u : Int) ≤ 3 := by omega
        rw [hu]
        clear hu HU y1
        go_wp2_with fail
        go_loopw [5, 36] (fun vo vj wj => ∃ (j : Nat) (xs : List (List UInt8)) (O : Value), O = vo ∧ vj = .int .i64 j ∧ j ≤ u ∧ xs.length ≤ ws.length + 1 + 2 * j ∧ Hid (xs = ws ++ segJ s j) ∧ Hid (WOwn wj w.heap.size O xs) ∧ Hid (Fr w.heap.size [9] w wj) ∧ Hid (Blk wj kb 35 #[.int .i64 k, .int .i64 ax, .int .i64 ay, .int .i64 bx, .int .i64 by_, .int .i64 cx, .int .i64 cy])) (fun _ vj _ => u - (intOf vj).toNat)
        case atStart => exact ⟨0, ws ++ segJ s 0, _, rfl, rfl, Nat.zero_le _, by rw [List.length_append, segJ_len _ _ (by omega)]; omega, rfl, HW5.out, HF5.out, HK5.out⟩
        case round =>
          obtain ⟨j, xs, O, rfl, rfl, hj, hxl, hxs, hxo, hfj, hkj⟩ := hrel
          by_cases hlj : j < u
          · have hdj : decide ((j : Int) < (u : Int)) = true := by simp; omega
            obtain ⟨z0, z1⟩ := HPT.out _ hkj.out j (by omega)
            obtain ⟨px, py, hp⟩ : ∃ px py, s.pt j = (px, py) := ⟨_, _, rfl⟩
            have HSX : Hid (xs ++ [Lib.itoa px, Lib.itoa py] = ws ++ segJ s (j + 1)) := by show _ = _; rw [segJ_succ s j (by omega), hp, hxs.out]; simp
            obtain ⟨hp1, hp2, hp3, hp4⟩ := HNS.out j (by omega)
            rw [hp] at z0 z1 hp1 hp2 hp3 hp4
            simp only at z0 z1 hp1 hp2 hp3 hp4
            clear hp
            have HBP := Blk.new wr 32 #[.int .i64 px, .int .i64 py]
            have HFP : Hid (Fr w.heap.size [9] w (wr.alloc (.cells #[.int .i64 px, .int .i64 py] 32))) := hfj.out.alloc _
            have HWP : Hid (WOwn (wr.alloc (.cells #[.int .i64 px, .int .i64 py] 32)) w.heap.size O xs) := World.ownsRow.alloc hxo.out _
            have HKP : Hid (Blk (wr.alloc (.cells #[.int .i64 px, .int .i64 py] 32)) kb 35 #[.int .i64 k, .int .i64 ax, .int .i64 ay, .int .i64 bx, .int .i64 by_, .int .i64 cx, .int .i64 cy]) := hkj.out.alloc _
            obtain ⟨xo2, co2, rfl⟩ := hxo.out.shape
            obtain ⟨SX, hSX⟩ : ∃ SX : ByteArray, SX = ⟨(Lib.itoa px).toArray⟩ := ⟨_, rfl⟩
            obtain ⟨SY, hSY⟩ : ∃ SY : ByteArray, SY = ⟨(Lib.itoa py).toArray⟩ := ⟨_, rfl⟩
            have HI1 := Lib.hid (fun W h => itoa_any px hp1 hp2 W h)
            have HI2 := Lib.hid (fun W h => itoa_any py hp3 hp4 W h)
            rw [← hSX] at HI1
            rw [← hSY] at HI2
            have HSS : Hid ([Value.string SX, Value.string SY] = strs [Lib.itoa px, Lib.itoa py]) := by show _ = _; rw [hSX, hSY]; rfl
            clear hSX hSY hp1 hp2 hp3 hp4 hxs hxo hfj hkj
            go_upto_region 12 with fail
            clear z0 z1
            generalize wr.alloc (.cells #[.int .i64 px, .int .i64 py] 32) = wk at *
            generalize wr.heap.size = kp at *
            have hneP : 32 ∉ [9] := by decide
            have HIN : Hid (∀ W, Below wk.heap.size wk W → Lib.TabIs Tryd.prog W "internal/strconv.uint64pow10" .u64 Lib.pow10Tab ∧ WOwn W w.heap.size (.slice xo2 xs.length co2) xs ∧ Fr w.heap.size [9] w W ∧ Blk W kb 35 #[.int .i64 k, .int .i64 ax, .int .i64 ay, .int .i64 bx, .int .i64 by_, .int .i64 cx, .int .i64 cy] ∧ Blk W kp 32 #[.int .i64 px, .int .i64 py]) := fun W hb =>
              ⟨tab_below (tab_below HT.out (HFP.out.below (Nat.le_refl _))) hb, (Fr.of_below (B := 0) hb []).owns HWP.out (by simp), HFP.out.trans (Fr.of_below hb [9]), (hb.block _ HKP.out.lt).trans HKP.out, (hb.block _ HBP.lt).trans HBP⟩
            have HCL : Hid (∀ W, Below wk.heap.size wk W → W.cell? ⟨kp, 0, none⟩ = some (.int .i64 px) ∧ W.cell? ⟨kp, 1, none⟩ = some (.int .i64 py)) := fun W hb =>
              ⟨(HIN.out W hb).2.2.2.2.cell 0, (HIN.out W hb).2.2.2.2.cell 1⟩
            have HCA : Hid (∀ (W : World) (o : Obj), (W.cell? ⟨kp, 0, none⟩ = some (.int .i64 px) ∧ W.cell? ⟨kp, 1, none⟩ = some (.int .i64 py)) → (W.alloc o).cell? ⟨kp, 0, none⟩ = some (.int .i64 px) ∧ (W.alloc o).cell? ⟨kp, 1, none⟩ = some (.int .i64 py)) := fun W o h => by
              have hb := (Below.refl W.heap.size W).alloc (Nat.le_refl _) o
              exact ⟨(hb.cell (p := ⟨kp, 0, none⟩) (World.block_lt_of_cell? W _ h.1)).trans h.1, (hb.cell (p := ⟨kp, 1, none⟩) (World.block_lt_of_cell? W _ h.2)).trans h.2⟩
            have HB0 : Hid (Below wk.heap.size wk wk.drew) := (Below.refl _ _).drew
            have hS := HCL.out _ HB0.out
            clear HFP HWP HKP HBP
            --HELD
            refine wp_region_held_drew (S := fun _ => True) (by kernel_rfl) trivial (fun hHeld => ?_)
            refine wpAnyH_weaken (S2 := fun W => W.cell? ⟨kp, 0, none⟩ = some (.int .i64 px) ∧ W.cell? ⟨kp, 1, none⟩ = some (.int .i64 py)) (fun _ _ => trivial) ?_
            refine wpAnyH_take (i := 0) (oi := ⟨some 40, Op.move (Operand.tmp 5), 68, _, _, none⟩) (v := ?v1) rfl (by kernel_rfl) (by kernel_rfl) (by kernel_rfl) (fun _ _ _ h => h) (Or.inl ⟨by rfl, ?y1⟩) hS ?r1
            case y1 => (intro w hSw; (try dsimp only at hSw); go_simp; try with_reducible rfl)
            try simp only [Act.put, List.setIfInBounds_toArray, List.set_cons_zero, List.set_cons_succ]
            refine wpAnyH_take (i := 1) (oi := ⟨some 41, Op.fieldAddr 32 (Operand.tmp 9) 0, 0, _, _, none⟩) (v := ?v2) rfl (by kernel_rfl) (by kernel_rfl) (by kernel_rfl) (fun _ _ _ h => h) (Or.inl ⟨by rfl, ?y2⟩) hS ?r2
            case y2 => (intro w hSw; (try dsimp only at hSw); go_simp; try with_reducible rfl)
            try simp only [Act.put, List.setIfInBounds_toArray, List.set_cons_zero, List.set_cons_succ]
            refine wpAnyH_take (i := 2) (oi := ⟨some 42, Op.load 3 (Operand.tmp 41), 3, _, _, none⟩) (v := ?v3) rfl (by kernel_rfl) (by kernel_rfl) (by kernel_rfl) (fun _ _ _ h => h) (Or.inl ⟨by rfl, ?y3⟩) hS ?r3
            case y3 => (intro w hSw; (try dsimp only at hSw); go_simp; try with_reducible rfl)
            try simp only [Act.put, List.setIfInBounds_toArray, List.set_cons_zero, List.set_cons_succ]
            refine wpAnyH_take (i := 4) (oi := ⟨some 44, Op.fieldAddr 32 (Operand.tmp 9) 1, 0, _, _, none⟩) (v := ?v4) rfl (by kernel_rfl) (by kernel_rfl) (by kernel_rfl) (fun _ _ _ h => h) (Or.inl ⟨by rfl, ?y4⟩) hS ?r4
            case y4 => (intro w hSw; (try dsimp only at hSw); go_simp; try with_reducible rfl)
            try simp only [Act.put, List.setIfInBounds_toArray, List.set_cons_zero, List.set_cons_succ]
            refine wpAnyH_take (i := 5) (oi := ⟨some 45, Op.load 3 (Operand.tmp 44), 3, _, _, none⟩) (v := ?v5) rfl (by kernel_rfl) (by kernel_rfl) (by kernel_rfl) (fun _ _ _ h => h) (Or.inl ⟨by rfl, ?y5⟩) hS ?r5
            case y5 => (intro w hSw; (try dsimp only at hSw); go_simp; try with_reducible rfl)
            try simp only [Act.put, List.setIfInBounds_toArray, List.set_cons_zero, List.set_cons_succ]
            refine wpAnyH_ready (rs := [3]) (by kernel_rfl) (by simp) ?r6
            refine AllReadyH.cons (o := ⟨some 43, Op.call { callee := Callee.value (Operand.func 45), args := #[Operand.tmp 42], argTypes := #[3] }, 9, _, _, none⟩) rfl (fun K hK => ?s6) AllReadyH.nil
            go_simp
            refine (HI1.out _ (HIN.out _ HB0.out).1).mono ?_; rintro e w3 ⟨rfl, hb3⟩; have HB3 : Hid (Below wk.heap.size wk w3) := Below.trans HB0.out (hb3.mono HB0.out.size); have HS3 := Lib.hid (HCL.out _ HB3.out)
            refine hK.out _ _ ?k6 (fun hHeld => ?_)
            case k6 => (first | exact hS | exact HS3.out | exact HS6.out | exact HS8.out | exact HCA.out _ _ hS)
            clear hS
            have hS := hHeld
            clear hHeld
            clear hK K
            try simp only [Act.put, List.setIfInBounds_toArray, List.set_cons_zero, List.set_cons_succ]
            refine wpAnyH_ready (rs := [6]) (by kernel_rfl) (by simp) ?r7
            refine AllReadyH.cons (o := ⟨some 46, Op.call { callee := Callee.value (Operand.func 45), args := #[Operand.tmp 45], argTypes := #[3] }, 9, _, _, none⟩) rfl (fun K hK => ?s7) AllReadyH.nil
            go_simp
            refine (HI2.out _ (HIN.out _ HB3.out).1).mono ?_; rintro e w6 ⟨rfl, hb6⟩; have HB6 : Hid (Below wk.heap.size wk w6) := Below.trans HB3.out (hb6.mono HB3.out.size); have HS6 := Lib.hid (HCL.out _ HB6.out); have HN6 := Lib.hid (HIN.out _ HB6.out)
            refine hK.out _ _ ?k7 (fun hHeld => ?_)
            case k7 => (first | exact hS | exact HS3.out | exact HS6.out | exact HS8.out | exact HCA.out _ _ hS)
            clear hS
            have hS := hHeld
            clear hHeld
            clear hK K
            try simp only [Act.put, List.setIfInBounds_toArray, List.set_cons_zero, List.set_cons_succ]
            refine wpAnyH_ready (rs := [7]) (by kernel_rfl) (by simp) ?r8
            refine AllReadyH.cons (o := ⟨some 47, Op.buildSlice 68 2 #[(0, Operand.tmp 43), (1, Operand.tmp 46)], 68, _, _, none⟩) rfl (fun K hK => ?s8) AllReadyH.nil
            go_simp
            refine hK.out _ _ ?k8 (fun hHeld => ?_)
            case k8 => (first | exact hS | exact HS3.out | exact HS6.out | exact HS8.out | exact HCA.out _ _ hS)
            clear hS
            have hS := hHeld
            clear hHeld
            clear hK K
            try simp only [Act.put, List.setIfInBounds_toArray, List.set_cons_zero, List.set_cons_succ]
            refine wpAnyH_ready (rs := [8]) (by kernel_rfl) (by simp) ?r9
            refine AllReadyH.cons (o := ⟨some 48, Op.call { callee := Callee.builtin Builtin.append, args := #[Operand.tmp 40, Operand.tmp 47], argTypes := #[68, 68] }, 68, _, _, none⟩) rfl (fun K hK => ?s9) AllReadyH.nil
            refine step_appS el_str rfl (s := .tmp 40) (x := .tmp 47) rfl (by simp [Act.eval]) (World.ownsRow.alloc HN6.out.2.1 _) (m := 1) (by simp [Act.eval]) (Blk.new w6 _ _) rfl (by intro z hz; simp at hz; rcases hz with rfl | rfl <;> rfl) (by omega) (by omega) (Nat.le_trans HN6.out.2.2.1.size ((Below.refl _ _).alloc (Nat.le_refl _) _).size) ?_; intro r8 cap8 w8 h8 hg8; have hF8 := ((Fr.refl w.heap.size [9] w6).alloc (.cells #[.string SX, .string SY] 9)).grown (World.ownsRow.alloc HN6.out.2.1 _) (Nat.le_refl _) (by simp) hg8; have HF8 : Hid (Fr w.heap.size [9] w w8) := HN6.out.2.2.1.trans hF8; have HK8 := Lib.hid (hF8.blk HN6.out.2.2.2.1 hne); have hp8 := hF8.blk HN6.out.2.2.2.2 hneP; have HS8 := Lib.hid (And.intro (hp8.cell 0) (hp8.cell 1)); have HW8 : Hid (WOwn w8 w.heap.size (.slice (some ⟨r8, 0, none⟩) (xs.length + 2) cap8) (xs ++ [Lib.itoa px, Lib.itoa py])) := WOwn.more (new := [Lib.itoa px, Lib.itoa py]) h8 (by rw [← HSS.out]) rfl; clear h8 hg8 hF8 hp8 HN6
            refine hK.out _ _ ?k9 (fun hHeld => ?_)
            case k9 => (first | exact hS | exact HS3.out | exact HS6.out | exact HS8.out | exact HCA.out _ _ hS)
            clear hS
            have hS := hHeld
            clear hHeld
            clear hK K
            try simp only [Act.put, List.setIfInBounds_toArray, List.set_cons_zero, List.set_cons_succ]
            refine wpAnyH_ready (rs := [9]) (by kernel_rfl) (by simp) ?r10
            refine AllReadyH.cons (o := ⟨some 5, Op.assign (Operand.tmp 48), 68, _, _, none⟩) rfl (fun K hK => ?s10) AllReadyH.nil
            go_simp
            refine hK.out _ _ ?k10 (fun hHeld => ?_)
            case k10 => (first | exact hS | exact HS3.out | exact HS6.out | exact HS8.out | exact HCA.out _ _ hS)
            clear hS
            have hS := hHeld
            clear hHeld
            clear hK K
            try simp only [Act.put, List.setIfInBounds_toArray, List.set_cons_zero, List.set_cons_succ]
            refine wpAnyH_done (by kernel_rfl) ?_ _
            --DLEH
            clear hS HS3 HS6 HS8 HB0 HB3 HB6 HCA HCL HIN HI1 HI2 HSS
            go_wp2_with fail
            go_roundw
            case rel => exact ⟨j + 1, xs ++ [Lib.itoa px, Lib.itoa py], _, rfl, by go_num, by omega, by simp; omega, HSX, HW8, HF8, HK8⟩
            case measure => simp [intOf]; omega
          · have hdj : decide ((j : Int) < (u : Int)) = false := by simp; omega
            have hju : j = u := by omega
            subst hju
            have HZ : Hid (xs = wordsP (l.take (i + 1))) := by show _ = _; rw [hxs.out, HST.out, HSG.out]
            clear hxs HST HSG
            obtain ⟨xo2, co2, rfl⟩ := hxo.out.shape
            go_wp2_with fail
            go_roundw
            case rel => exact ⟨i + 1, xs, _, rfl, by go_num, by omega, HZ, hxo, hfj⟩
            case measure => simp [intOf]; omega
      · have hd : decide ((i : Int) < (l.length : Int)) = false := by simp; omega
        have hi2 : i = l.length := by omega
        have HZ : Hid (printP l = joinP ws) := by show _ = _; rw [hws.out, hi2, List.take_length]; rfl
        have hwl : ws.length ≤ 7 * i := by rw [hws.out]; have := words_len (l.take i); simp at this; omega
        have HJ := Lib.hid (join_any _ ws wr hwo.out (by omega) (by rw [hws.out, hi2, List.take_length]; exact words_x l fun s hs => (hall.out s hs).2.2))
        obtain ⟨xo, co, rfl⟩ := hwo.out.shape
        clear hws
        go_wp2_with fail
        refine HJ.out.mono ?_
        rintro e w2 ⟨rfl, hb2⟩
        have HB2 : Hid (Below w.heap.size w w2) := (hfr.out.below (Nat.le_refl _)).trans (hb2.mono hfr.out.size)
        clear hb2 HJ
        go_wp2_with fail
        go_ret2
        exact ⟨by rw [HR.out, HZ.out]; rfl, HB2.out⟩
  · have HR : Hid (∀ e, PrOk l e = (e = .returned (.tuple #[.string ⟨#[]⟩, .int .i64 (chkP l)]))) := by
      intro e; unfold PrOk; rw [if_neg h0]
    generalize chkP l = z at *
    have hz : (z != 0) = true := by simpa using h0
    clear HSR
    go_enter Tryd.func23, Tryd.ntmps23
    go_wp2_with fail
    refine HCK.out.mono ?_
    rintro e w1 ⟨rfl, hb1⟩
    have HB1 := Lib.hid hb1
    clear hb1 HCK
    go_wp2_with fail
    go_ret2
    exact ⟨by rw [HR.out]; rfl, HB1.out⟩
end Go.Proofs.YtgjbelcnkmcbiaaDoor
