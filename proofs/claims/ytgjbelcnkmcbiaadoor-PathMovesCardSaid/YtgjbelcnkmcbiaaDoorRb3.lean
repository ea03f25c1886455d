/-
  Walks: Total and Shift of the reference. (Region 16 by wip/gen_rb3.py.)
-/
import Derived.Test.YtgjbelcnkmcbiaaDoorRb2
import Derived.Test.YtgjbelcnkmcbiaaDoorQh
import Derived.Test.YtgjbelcnkmcbiaaDoorQr
import Derived.Deep.AppendLies
namespace Go.Proofs.YtgjbelcnkmcbiaaDoor
open Go.RowKit

set_option maxRecDepth 100000 in
set_option maxHeartbeats 2000000 in
theorem rtotal_any (v : Value) (ps : List (List Pt)) (w : World) (hr : GRow w v ps) (htot : totP ps ≤ 1048576) : Calls Tryd.prog 42 #[v] w fun e w' => e = .returned (.int .i64 (totP ps)) ∧ w' = w := by
  have HTK := Lib.hid (fun i h => tot_take ps i h)
  have HTL := Lib.hid (fun i => tot_le ps i)
  have HSR := Lib.hid hr
  obtain ⟨x, c, rfl, hc1, hc2, -⟩ := hr
  unfold maxLen at hc2
  obtain ⟨T, hT⟩ : ∃ T, totP ps = T := ⟨_, rfl⟩
  have HTE := Lib.hid hT
  rw [hT] at htot ⊢
  clear hT
  go_enter Tryd.func42, Tryd.ntmps42
  go_wp2_with fail
  go_loopw [3, 4] (fun vn vi wr => ∃ (i m : Nat), vi = .int .i64 i ∧ vn = .int .i64 m ∧ i ≤ ps.length ∧ m ≤ T ∧ Hid (m = totP (ps.take i)) ∧ Hid (wr = w)) (fun _ vi _ => ps.length - (intOf vi).toNat)
  case atStart => exact ⟨0, 0, rfl, rfl, Nat.zero_le _, Nat.zero_le _, by show _ = _; simp [totP], rfl⟩
  case round =>
    obtain ⟨i, m, rfl, rfl, hi, hm, hmt, hwr⟩ := hrel
    by_cases hlt : i < ps.length
    · have hd : decide ((i : Int) < (ps.length : Int)) = true := by simp; omega
      have hrw := HSR.out
      rw [← hwr.out] at hrw
      obtain ⟨bb, off, rfl, u, hu, hqr⟩ := hrw.at i hlt
      obtain ⟨xq, cq, rfl, hq1, hq2, -⟩ := hqr
      have hts := HTL.out (i + 1)
      have hmm : totP (ps.take (i + 1)) = m + ps[i].length := by rw [HTK.out i hlt, hmt.out]
      rw [hmm, HTE.out] at hts
      obtain ⟨mi, hmi⟩ : ∃ mi, ps[i].length = mi := ⟨_, rfl⟩
      rw [hmi] at hu hmm hts
      have HMM := Lib.hid hmm
      clear hmm hmi hmt hq1 hq2 hrw
      go_wp2_with fail
      go_roundw
      case rel => exact ⟨i + 1, m + mi, by go_num, by go_num, by omega, by omega, by show _ = _; rw [HMM.out], hwr⟩
      case measure => simp [intOf]; omega
    · have hd : decide ((i : Int) < (ps.length : Int)) = false := by simp; omega
      have HZ : Hid ((m : Int) = T) := by
        have h1 := hmt.out
        rw [List.take_of_length_le (by omega), HTE.out] at h1
        show _ = _
        rw [h1]
      clear hmt
      go_wp2_with fail
      go_ret
      exact ⟨by rw [← HZ.out]; rfl, hwr.out⟩
/-- 'append(out, x1, ..)' within a region that draws its order; where the row lies behind it. -/
theorem step_appE {P : Program} {w : World} {ops : Array Oper} {o : Oper} {a : Act} {K : Act → World → Prop} {Q : Exit → Act → World → Prop} {E : Prop} {t e : TypeId} {z : Value} {size bytes : Nat} (hE : Elem P t e z size bytes) (hgd : o.guard = none) {s x : Operand}
    (ho : o.op = .call { callee := .builtin .append, args := #[s, x], argTypes := #[t, t] }) {base : Nat} {v : Value} {n : Nat} {xs : List Value} (hs : a.eval s = v) (hown : w.ownsRow base e size v n xs) {cs : Array Value} {m k : Nat}
    (hx : a.eval x = .slice (some ⟨k, 0, none⟩) (m + 1) (m + 1)) (hb : Blk w k e cs) (hm : cs.size = (m + 1) * size) (h1 : ∀ u ∈ cs.toList, u.oneCell' = true) (hlen : (n + (m + 1)) * bytes ≤ 140737488355328) (h63 : n + (m + 1) ≤ maxLen) (hbase : base ≤ w.heap.size)
    (h : ∀ r cap w', w'.ownsRow base e size (.slice (some ⟨r, 0, none⟩) (n + (m + 1)) cap) (n + (m + 1)) (xs ++ cs.toList) → w.grownBy w' v.ownBlock → K (a.put o.dst (.slice (some ⟨r, 0, none⟩) (n + (m + 1)) cap)) w') :
    if Region.wanted o (yielded ops a.tmps) = true then Oper.wp P o a w K Q else E := by
  obtain ⟨ht, ⟨i, hi, hz, hsz, hby⟩, hzs, hp⟩ := hE
  exact step_append_lies (w := w) hgd s x t ho base e i z size bytes ht hi hz hsz hby hzs hp v n xs hs hown ⟨k, 0, none⟩ (m + 1) (m + 1) cs.toList hx (by simpa using hm) (World.news_of_block hb) h1 (by omega) h63 hlen hbase _ rfl fun g cap w' a1 a2 _ _ => h g cap w' a1 a2
theorem qown_sh2 {B : Nat} {W : World} {v : Value} {l : List Pt} (h : QOwn W B v l) : ∃ x c, v = .slice x l.length c := by
  rcases h.2 with ⟨rfl, h0⟩ | ⟨g, cap, cur, rfl, _⟩
  · exact ⟨none, 0, by rw [h0]⟩
  · exact ⟨_, _, rfl⟩

set_option maxRecDepth 100000 in
set_option maxHeartbeats 4000000 in
theorem rshift_any (v : Value) (ps : List (List Pt)) (t : Af) (w : World) (hr : GRow w v ps) (htot : totP ps ≤ 1048576) (hlen : ps.length ≤ 1048576) : Calls Tryd.prog 22 #[v, .agg (afC t)] w fun e w' => ShOk t ps e w' ∧ Below w.heap.size w w' := by
  have HCK := Lib.hid (fun w => rachk_any t w)
  have HIM := Lib.hid (fun p w => rimage_any t p w)
  have HTO := Lib.hid (fun w1 (hb : Below w.heap.size w w1) => rtotal_any v ps w1 (hr.below hb) htot)
  have HTK := Lib.hid (fun i h => tot_take ps i h)
  have HTL := Lib.hid (fun i => tot_le ps i)
  have HSR := Lib.hid hr
  obtain ⟨x, c, rfl, hc1, hc2, -⟩ := hr
  unfold maxLen at hc2
  have hbx := (Below.refl w.heap.size w).alloc (Nat.le_refl _) (.cells (afC t) 45)
  have hK0 := Blk.new w 45 (afC t)
  unfold afC at HCK HIM hbx hK0 ⊢
  have HBX := Lib.hid hbx
  have HKB := Lib.hid hK0
  have k0 : (w.alloc (.cells #[.int .i64 t.a, .int .i64 t.b, .int .i64 t.c, .int .i64 t.d, .int .i64 t.e, .int .i64 t.f] 45)).cell? ⟨w.heap.size, 0, none⟩ = some (.int .i64 t.a) := hK0.cell 0
  clear hbx hK0
  by_cases h0 : afChk t = 0
  · rw [h0] at HCK
    obtain ⟨T, hT⟩ : ∃ T, totP ps = T := ⟨_, rfl⟩
    rw [hT] at HTO htot
    have HR : Hid (∀ e w', ShOk t ps e w' = if 4096 < T then e = .returned (.tuple #[.slice none 0 0, .int .i64 3])
      else if ∀ q ∈ ps, ∀ p ∈ q, badP t p = false then ∃ g, e = .returned (.tuple #[g, .int .i64 0]) ∧ GRow w' g (ps.map (·.map (imgP t)))
      else e = .returned (.tuple #[.slice none 0 0, .int .i64 2])) := by
      intro e w'; unfold ShOk; rw [if_neg (by simp [h0]), hT]
    have HTE := Lib.hid hT
    clear h0 hT
    go_enter Tryd.func22, Tryd.ntmps22
    go_wp2_with fail
    refine (HCK.out _).mono ?_
    rintro e w1 ⟨rfl, hb1⟩
    have HB1 := Lib.hid (HBX.out.trans (hb1.mono HBX.out.size))
    have HK1 := Lib.hid ((hb1.block _ HKB.out.lt).trans HKB.out)
    have HTO := Lib.hid (HTO.out w1 HB1.out)
    clear hb1 HBX HKB k0 HCK
    go_wp2_with fail
    refine HTO.out.mono ?_
    rintro e w2 ⟨rfl, rfl⟩
    by_cases h4 : 4096 < T
    · have hd4 : decide ((4096 : Int) < (T : Int)) = true := by simp; omega
      have HRR : Hid (∀ e w', ShOk t ps e w' = (e = .returned (.tuple #[.slice none 0 0, .int .i64 3]))) := by
        intro e w'; rw [HR.out, if_pos h4]
      go_wp2_with fail
      go_ret2
      exact ⟨by rw [HRR.out]; rfl, HB1.out⟩
    · have hd4 : decide ((4096 : Int) < (T : Int)) = false := by simp; omega
      have HRR : Hid (∀ e w', ShOk t ps e w' = if ∀ q ∈ ps, ∀ p ∈ q, badP t p = false then ∃ g, e = .returned (.tuple #[g, .int .i64 0]) ∧ GRow w' g (ps.map (·.map (imgP t)))
          else e = .returned (.tuple #[.slice none 0 0, .int .i64 2])) := by
        intro e w'; rw [HR.out, if_neg h4]
      have HQL : Hid (∀ i (h : i < ps.length), ps[i].length ≤ 4096) := by
        intro j hj
        have h1 := HTE.out
        have h2 := HTK.out j hj
        have h3 := HTL.out (j + 1)
        omega
      have HG0 : Hid (GOwn (w2.alloc (.cells #[] 37)) w.heap.size (w2.alloc (.cells #[] 37)).heap.size (.slice (some ⟨w2.heap.size, 0, none⟩) 0 0) []) := ⟨[], rfl, World.ownsRow_lit w2 #[] 0 HB1.out.size (by decide) rfl, by simp, fun i h => by cases h⟩
      have HBG := Lib.hid (HB1.out.alloc HB1.out.size (.cells #[] 37))
      have HKG := Lib.hid (Blk.alloc HK1.out (.cells #[] 37))
      clear HR HTK HTL HB1 HK1 HTO
      go_wp2_with fail
      go_loopw [7, 8] (fun vo vi wj => ∃ (i : Nat) (O : Value), O = vo ∧ vi = .int .i64 i ∧ i ≤ ps.length ∧ Hid (GOwn wj w.heap.size wj.heap.size O ((ps.take i).map (·.map (imgP t)))) ∧ Hid (∀ j (h : j < ps.length), j < i → ∀ p ∈ ps[j], badP t p = false) ∧ Hid (Blk wj w.heap.size 45 #[.int .i64 t.a, .int .i64 t.b, .int .i64 t.c, .int .i64 t.d, .int .i64 t.e, .int .i64 t.f]) ∧ Hid (Below w.heap.size w wj)) (fun _ vi _ => ps.length - (intOf vi).toNat)
      case atStart => exact ⟨0, _, rfl, rfl, Nat.zero_le _, HG0.out, fun j h h2 => absurd h2 (by omega), HKG.out, HBG.out⟩
      case round =>
        obtain ⟨i, O, rfl, rfl, hi, how, hbd, hka, hbw⟩ := hrel
        obtain ⟨xo, co, rfl⟩ := how.out.shape
        by_cases hlt : i < ps.length
        · have hd : decide ((i : Int) < (ps.length : Int)) = true := by simp; omega
          obtain ⟨bb, off, rfl, u, hu0, hqr⟩ := HSR.out.at i hlt
          have HPC : Hid (∀ W', Below w.heap.size w W' → W'.cell? ⟨bb, off + i, none⟩ = some u) := fun W' hb => (hb.cell (p := ⟨bb, off + i, none⟩) (World.block_lt_of_cell? w _ hu0)).trans hu0
          have hql := HQL.out i hlt
          have HPI : Hid (ps[i] ∈ ps) := List.getElem_mem hlt
          have HTI : Hid ((ps.take (i + 1)).map (·.map (imgP t)) = (ps.take i).map (·.map (imgP t)) ++ [ps[i].map (imgP t)]) := by
            show _ = _; rw [List.take_succ_eq_append_getElem hlt, List.map_append]; rfl
          have hLT : ((ps.take i).map (·.map (imgP t))).length = i := by simp; omega
          obtain ⟨Q, hQ⟩ : ∃ Q, ps[i] = Q := ⟨_, rfl⟩
          have HQE := Lib.hid hQ
          rw [hQ] at hqr hql HPI HTI
          have HQR := Lib.hid hqr
          obtain ⟨xq, cq, rfl, hq1, hq2, -⟩ := hqr
          unfold maxLen at hq2
          have HBD : Hid (∀ p ∈ Q, badP t p = true → ∀ e w', ShOk t ps e w' = (e = .returned (.tuple #[.slice none 0 0, .int .i64 2]))) := by
            intro p hp hb e w'
            rw [HRR.out, if_neg]
            intro h
            rw [h Q HPI.out p hp] at hb
            cases hb
          obtain ⟨IM, hIM⟩ : ∃ IM, (ps.take i).map (·.map (imgP t)) = IM := ⟨_, rfl⟩
          rw [hIM] at how HTI hLT
          rw [hIM]
          have HLT := Lib.hid hLT
          have HQ0 : Hid (QOwn (wr.alloc (.cells #[] 32)) wr.heap.size (.slice (some ⟨wr.heap.size, 0, none⟩) 0 0) []) := World.ownsRow_lit wr #[] 0 (Nat.le_refl _) (by decide) rfl
          have HGZ : Hid (GOwn (wr.alloc (.cells #[] 32)) w.heap.size wr.heap.size (.slice xo IM.length co) IM) := how.out.fr ((Fr.refl _ _ _).alloc _)
          have HKZ := Lib.hid (Blk.alloc hka.out (.cells #[] 32))
          have HBZ := Lib.hid (hbw.out.alloc hbw.out.size (.cells #[] 32))
          have HWU : Hid (w.heap.size ≤ wr.heap.size) := hbw.out.size
          have HUS : Hid (wr.heap.size ≤ (wr.alloc (.cells #[] 32)).heap.size) := by show _ ≤ _; simp
          clear how hka hbw hu0 hQ hIM hLT
          go_wp2_with fail
          generalize wr.alloc (.cells #[] 32) = wz at *
          generalize wr.heap.size = U at *
          go_loopw [9, 10] (fun vp vk wj => ∃ (k : Nat) (q : List Pt) (V : Value), V = vp ∧ vk = .int .i64 k ∧ k ≤ Q.length ∧ q.length ≤ k ∧ Hid (q = (Q.take k).map (imgP t)) ∧ Hid (∀ j (h : j < Q.length), j < k → badP t Q[j] = false) ∧ Hid (QOwn wj U V q) ∧ Hid (Fr U [32] wz wj)) (fun _ vk _ => Q.length - (intOf vk).toNat)
          case atStart => exact ⟨0, [], _, rfl, rfl, Nat.zero_le _, Nat.le_refl _, rfl, fun j _ h => absurd h (by omega), HQ0.out, Fr.refl _ _ _⟩
          case round =>
            obtain ⟨k, q, V, rfl, rfl, hk, hqk, hqe, hgood, hqo, hfr⟩ := hrel
            obtain ⟨xv, cv, rfl⟩ := qown_sh2 hqo.out
            have HBJ : Hid (Below w.heap.size w wr) := HBZ.out.trans ((hfr.out.below HUS.out).mono HWU.out)
            have q0 := HPC.out wr HBJ.out
            by_cases hlk : k < Q.length
            · have hdk : decide ((k : Int) < (Q.length : Int)) = true := by simp; omega
              have hQr := HQR.out.below HBJ.out
              obtain ⟨bq, oq, rfl, z0, z1⟩ := hQr.at k hlk
              have HPM : Hid (Q[k] ∈ Q) := List.getElem_mem hlk
              obtain ⟨px, py, hp⟩ : ∃ a b, Q[k] = (a, b) := ⟨_, _, rfl⟩
              have HPK := Lib.hid hp
              have HZZ : Hid (∀ W', Below w.heap.size w W' → W'.cell? ⟨bq, oq + k * 2, none⟩ = some (.int .i64 px) ∧ W'.cell? ⟨bq, oq + k * 2 + 1, none⟩ = some (.int .i64 py)) := by
                intro W' hb
                obtain ⟨b', o', hv, y0, y1⟩ := (HQR.out.below hb).at k hlk
                obtain ⟨rfl, rfl⟩ : bq = b' ∧ oq = o' := by injection hv with hv; injection hv with h1 h2; exact ⟨h1, h2⟩
                rw [hp] at y0 y1
                exact ⟨y0, y1⟩
              rw [hp] at z0 z1 HPM
              simp only at z0 z1
              obtain ⟨q1, q2, hq⟩ : ∃ a b, imgP t (px, py) = (a, b) := ⟨_, _, rfl⟩
              have HIP := Lib.hid (fun w => HIM.out (px, py) w)
              rw [hq] at HIP
              unfold ptC at HIP
              simp only at HIP
              have HBY1 := Lib.hid (fun w => near_any (px, py) w)
              have HBY2 := Lib.hid (fun w => near_any (q1, q2) w)
              unfold ptC at HBY1 HBY2
              simp only at HBY1 HBY2
              have HBB : Hid (badP t (px, py) = (farP (px, py) || farP (q1, q2))) := by show _ = _; unfold badP; rw [hq]
              obtain ⟨f1, hf1⟩ : ∃ f, farP (px, py) = f := ⟨_, rfl⟩
              obtain ⟨f2, hf2⟩ : ∃ f, farP (q1, q2) = f := ⟨_, rfl⟩
              rw [hf1] at HBY1 HBB
              rw [hf2] at HBY2 HBB
              have HTS : Hid ((Q.take (k + 1)).map (imgP t) = q ++ [(q1, q2)]) := by
                show _ = _
                rw [List.take_succ_eq_append_getElem hlk, List.map_append, ← hqe.out]
                simp [hp, hq]
              clear hf1 hf2
              have HSZ : Hid (∀ W, Fr U [32] wz W → Below w.heap.size w W → ((W.cell? ⟨w.heap.size, 0, none⟩ = some (.int .i64 t.a) ∧ W.cell? ⟨w.heap.size, 1, none⟩ = some (.int .i64 t.b) ∧ W.cell? ⟨w.heap.size, 2, none⟩ = some (.int .i64 t.c) ∧ W.cell? ⟨w.heap.size, 3, none⟩ = some (.int .i64 t.d) ∧ W.cell? ⟨w.heap.size, 4, none⟩ = some (.int .i64 t.e) ∧ W.cell? ⟨w.heap.size, 5, none⟩ = some (.int .i64 t.f)) ∧ W.cell? ⟨bb, off + i, none⟩ = some (.slice (some ⟨bq, oq, none⟩) Q.length cq) ∧ W.cell? ⟨bq, oq + k * 2, none⟩ = some (.int .i64 px) ∧ W.cell? ⟨bq, oq + k * 2 + 1, none⟩ = some (.int .i64 py))) := by
                intro W hf hb
                have hk := hf.blk HKZ.out (by decide)
                exact ⟨⟨hk.cell 0, hk.cell 1, hk.cell 2, hk.cell 3, hk.cell 4, hk.cell 5⟩, HPC.out W hb, HZZ.out W hb⟩
              have HCY : Hid (∀ W, Below wr.heap.size wr W → Fr U [32] wz W ∧ Below w.heap.size w W ∧ QOwn W U (.slice xv q.length cv) q) := by
                intro W hb
                exact ⟨hfr.out.trans ((Fr.of_below hb [32]).mono (Nat.le_trans HUS.out hfr.out.size) (fun _ h => h)), HBJ.out.trans (hb.mono HBJ.out.size), (Fr.of_below (B := 0) hb []).owns hqo.out (by simp)⟩
              obtain ⟨K0, hK0⟩ : ∃ K0, K0 = wr.heap.size := ⟨_, rfl⟩
              have HK0 : Hid (K0 ≤ wr.heap.size) := by show _ ≤ _; omega
              have HUB : Hid (∀ u : BW K0 wr, Below wr.heap.size wr u.w) := fun u => hK0 ▸ u.b
              have cz : Hid (∀ u : BW K0 wr, ((u.w.cell? ⟨w.heap.size, 0, none⟩ = some (.int .i64 t.a) ∧ u.w.cell? ⟨w.heap.size, 1, none⟩ = some (.int .i64 t.b) ∧ u.w.cell? ⟨w.heap.size, 2, none⟩ = some (.int .i64 t.c) ∧ u.w.cell? ⟨w.heap.size, 3, none⟩ = some (.int .i64 t.d) ∧ u.w.cell? ⟨w.heap.size, 4, none⟩ = some (.int .i64 t.e) ∧ u.w.cell? ⟨w.heap.size, 5, none⟩ = some (.int .i64 t.f)) ∧ u.w.cell? ⟨bb, off + i, none⟩ = some (.slice (some ⟨bq, oq, none⟩) Q.length cq) ∧ u.w.cell? ⟨bq, oq + k * 2, none⟩ = some (.int .i64 px) ∧ u.w.cell? ⟨bq, oq + k * 2 + 1, none⟩ = some (.int .i64 py))) := fun u => HSZ.out _ (HCY.out _ (HUB.out u)).1 (HCY.out _ (HUB.out u)).2.1
              have c0 := fun u => (cz.out u).1.1
              have c1 := fun u => (cz.out u).1.2.1
              have c2 := fun u => (cz.out u).1.2.2.1
              have c3 := fun u => (cz.out u).1.2.2.2.1
              have c4 := fun u => (cz.out u).1.2.2.2.2.1
              have c5 := fun u => (cz.out u).1.2.2.2.2.2
              have c6 := fun u => (cz.out u).2.1
              have c7 := fun u => (cz.out u).2.2.1
              have c8 := fun u => (cz.out u).2.2.2
              clear hp hq hQr hqo hfr hK0 cz hqe
              cases f1 with
              | true =>
                have HRE := Lib.hid (HBD.out _ HPM.out (by rw [HBB.out]; rfl))
                go_upto_region 14 with fail
                refine wp_region_bw K0 wr (Below.refl _ _) (by kernel_rfl) (by kernel_rfl) ?_
                repeat (go_big_quiet_step (first
                  | (go_at_call_of 43 (Value.agg #[.int .i64 px, .int .i64 py]); exact calls_bw HK0.out (HBY1.out _))))
                refine wpQuiet_nil ?_
                rintro _ ⟨u, rfl⟩
                have HBF := Lib.hid (HCY.out _ (HUB.out u)).2.1
                generalize u.w = wy at *
                clear c0 c1 c2 c3 c4 c5 c6 c7 c8
                go_wp2_with fail
                go_ret2
                exact ⟨by rw [HRE.out]; rfl, HBF.out⟩
              | false =>
                cases f2 with
                | true =>
                  have HRE := Lib.hid (HBD.out _ HPM.out (by rw [HBB.out]; rfl))
                  go_upto_region 14 with fail
                  refine wp_region_bw K0 wr (Below.refl _ _) (by kernel_rfl) (by kernel_rfl) ?_
                  repeat (go_big_quiet_step (first
                    | (go_at_call_of 43 (Value.agg #[.int .i64 px, .int .i64 py]); exact calls_bw HK0.out (HBY1.out _))
                    | (go_at_call_of 43 (Value.agg #[.int .i64 q1, .int .i64 q2]); exact calls_bw HK0.out (HBY2.out _))
                    | (go_at_call 44; exact calls_bw HK0.out (HIP.out _))))
                  refine wpQuiet_nil ?_
                  rintro _ ⟨u, rfl⟩
                  have HBF := Lib.hid (HCY.out _ (HUB.out u)).2.1
                  generalize u.w = wy at *
                  clear c0 c1 c2 c3 c4 c5 c6 c7 c8
                  go_wp2_with fail
                  go_ret2
                  exact ⟨by rw [HRE.out]; rfl, HBF.out⟩
                | false =>
                  go_upto_region 14 with fail
                  refine wp_region_bw K0 wr (Below.refl _ _) (by kernel_rfl) (by kernel_rfl) ?_
                  repeat (go_big_quiet_step (first
                    | (go_at_call_of 43 (Value.agg #[.int .i64 px, .int .i64 py]); exact calls_bw HK0.out (HBY1.out _))
                    | (go_at_call_of 43 (Value.agg #[.int .i64 q1, .int .i64 q2]); exact calls_bw HK0.out (HBY2.out _))
                    | (go_at_call 44; exact calls_bw HK0.out (HIP.out _))))
                  refine wpQuiet_nil ?_
                  rintro _ ⟨u, rfl⟩
                  have HUY := Lib.hid (HUB.out u)
                  generalize u.w = wy at *
                  clear c0 c1 c2 c3 c4 c5 c6 c7 c8 z0 z1 q0 HUB
                  go_upto_region 16 with fail
                  have HBD0 : Hid (Below wr.heap.size wr wy.drew) := HUY.out.drew
                  have HSY := Lib.hid (fun W (hb : Below wr.heap.size wr W) => HSZ.out W (HCY.out W hb).1 (HCY.out W hb).2.1)
                  have HUA : Hid (∀ W, Below wr.heap.size wr W → U ≤ W.heap.size) := fun W hb => Nat.le_trans HUS.out (HCY.out W hb).1.size
                  have hS := HSY.out _ HBD0.out
                  have hqk2 : q.length ≤ 4096 := by omega
                  have hmax : maxLen = 9223372036854775807 := rfl
                  --HELD16
                  refine wp_region_held_drew (S := fun _ => True) (by kernel_rfl) trivial (fun hHeld => ?_)
                  clear hHeld
                  generalize wy.drew = wd at *
                  refine wpAnyH_weaken (S2 := fun W => (W.cell? ⟨w.heap.size, 0, none⟩ = some (.int .i64 t.a) ∧ W.cell? ⟨w.heap.size, 1, none⟩ = some (.int .i64 t.b) ∧ W.cell? ⟨w.heap.size, 2, none⟩ = some (.int .i64 t.c) ∧ W.cell? ⟨w.heap.size, 3, none⟩ = some (.int .i64 t.d) ∧ W.cell? ⟨w.heap.size, 4, none⟩ = some (.int .i64 t.e) ∧ W.cell? ⟨w.heap.size, 5, none⟩ = some (.int .i64 t.f)) ∧ W.cell? ⟨bb, off + i, none⟩ = some (.slice (some ⟨bq, oq, none⟩) Q.length cq) ∧ W.cell? ⟨bq, oq + k * 2, none⟩ = some (.int .i64 px) ∧ W.cell? ⟨bq, oq + k * 2 + 1, none⟩ = some (.int .i64 py)) (fun _ _ => trivial) ?_
                  refine wpAnyH_take (i := 0) (oi := ⟨some 58, Op.move (Operand.tmp 9), 37, _, _, none⟩) (v := ?v1) rfl (by kernel_rfl) (by kernel_rfl) (by kernel_rfl) (fun _ _ _ h => h) (Or.inl ⟨by rfl, ?y1⟩) hS ?r1
                  case y1 => (intro w hSw; (try dsimp only at hSw); go_simp; try with_reducible rfl)
                  try simp only [Act.put, List.setIfInBounds_toArray, List.set_cons_zero, List.set_cons_succ]
                  refine wpAnyH_take (i := 1) (oi := ⟨some 59, Op.load 45 (Operand.tmp 3), 45, _, _, none⟩) (v := ?v2) rfl (by kernel_rfl) (by kernel_rfl) (by kernel_rfl) (fun _ _ _ h => h) (Or.inl ⟨by rfl, ?y2⟩) hS ?r2
                  case y2 => (intro w hSw; (try dsimp only at hSw); go_simp; try with_reducible rfl)
                  try simp only [Act.put, List.setIfInBounds_toArray, List.set_cons_zero, List.set_cons_succ]
                  refine wpAnyH_take (i := 2) (oi := ⟨some 60, Op.move (Operand.tmp 0), 23, _, _, none⟩) (v := ?v3) rfl (by kernel_rfl) (by kernel_rfl) (by kernel_rfl) (fun _ _ _ h => h) (Or.inl ⟨by rfl, ?y3⟩) hS ?r3
                  case y3 => (intro w hSw; (try dsimp only at hSw); go_simp; try with_reducible rfl)
                  try simp only [Act.put, List.setIfInBounds_toArray, List.set_cons_zero, List.set_cons_succ]
                  refine wpAnyH_take (i := 3) (oi := ⟨some 61, Op.move (Operand.tmp 8), 3, _, _, none⟩) (v := ?v4) rfl (by kernel_rfl) (by kernel_rfl) (by kernel_rfl) (fun _ _ _ h => h) (Or.inl ⟨by rfl, ?y4⟩) hS ?r4
                  case y4 => (intro w hSw; (try dsimp only at hSw); go_simp; try with_reducible rfl)
                  try simp only [Act.put, List.setIfInBounds_toArray, List.set_cons_zero, List.set_cons_succ]
                  refine wpAnyH_take (i := 4) (oi := ⟨some 62, Op.indexAddr 23 (Operand.tmp 60) (Operand.tmp 61), 0, _, _, none⟩) (v := ?v5) rfl (by kernel_rfl) (by kernel_rfl) (by kernel_rfl) (fun _ _ _ h => h) (Or.inl ⟨by rfl, ?y5⟩) hS ?r5
                  case y5 => (intro w hSw; (try dsimp only at hSw); go_simp; try with_reducible rfl)
                  try simp only [Act.put, List.setIfInBounds_toArray, List.set_cons_zero, List.set_cons_succ]
                  refine wpAnyH_take (i := 5) (oi := ⟨some 63, Op.load 37 (Operand.tmp 62), 37, _, _, none⟩) (v := ?v6) rfl (by kernel_rfl) (by kernel_rfl) (by kernel_rfl) (fun _ _ _ h => h) (Or.inl ⟨by rfl, ?y6⟩) hS ?r6
                  case y6 => (intro w hSw; (try dsimp only at hSw); go_simp; try with_reducible rfl)
                  try simp only [Act.put, List.setIfInBounds_toArray, List.set_cons_zero, List.set_cons_succ]
                  refine wpAnyH_take (i := 6) (oi := ⟨some 64, Op.move (Operand.tmp 10), 3, _, _, none⟩) (v := ?v7) rfl (by kernel_rfl) (by kernel_rfl) (by kernel_rfl) (fun _ _ _ h => h) (Or.inl ⟨by rfl, ?y7⟩) hS ?r7
                  case y7 => (intro w hSw; (try dsimp only at hSw); go_simp; try with_reducible rfl)
                  try simp only [Act.put, List.setIfInBounds_toArray, List.set_cons_zero, List.set_cons_succ]
                  refine wpAnyH_take (i := 7) (oi := ⟨some 65, Op.indexAddr 37 (Operand.tmp 63) (Operand.tmp 64), 0, _, _, none⟩) (v := ?v8) rfl (by kernel_rfl) (by kernel_rfl) (by kernel_rfl) (fun _ _ _ h => h) (Or.inl ⟨by rfl, ?y8⟩) hS ?r8
                  case y8 => (intro w hSw; (try dsimp only at hSw); go_simp; try with_reducible rfl)
                  try simp only [Act.put, List.setIfInBounds_toArray, List.set_cons_zero, List.set_cons_succ]
                  refine wpAnyH_take (i := 8) (oi := ⟨some 66, Op.load 32 (Operand.tmp 65), 32, _, _, none⟩) (v := ?v9) rfl (by kernel_rfl) (by kernel_rfl) (by kernel_rfl) (fun _ _ _ h => h) (Or.inl ⟨by rfl, ?y9⟩) hS ?r9
                  case y9 => (intro w hSw; (try dsimp only at hSw); go_simp; try with_reducible rfl)
                  try simp only [Act.put, List.setIfInBounds_toArray, List.set_cons_zero, List.set_cons_succ]
                  refine wpAnyH_ready (rs := [9]) (by kernel_rfl) (by simp) ?r10
                  refine AllReadyH.cons (o := ⟨some 67, Op.call { callee := Callee.value (Operand.func 44), args := #[Operand.tmp 59, Operand.tmp 66], argTypes := #[45, 32] }, 32, _, _, none⟩) rfl (fun K hK => ?s10) AllReadyH.nil
                  go_simp
                  refine (HIP.out _).mono ?_
                  rintro e w3 ⟨rfl, hb3⟩
                  have HB3 : Hid (Below wr.heap.size wr w3) := HBD0.out.trans (hb3.mono HBD0.out.size)
                  clear hb3
                  refine hK.out _ _ ?k10 (fun hHeld => ?_)
                  case k10 => exact HSY.out _ HB3.out
                  clear hS
                  have hS := hHeld
                  clear hHeld
                  clear hK K
                  try simp only [Act.put, List.setIfInBounds_toArray, List.set_cons_zero, List.set_cons_succ]
                  refine wpAnyH_ready (rs := [10]) (by kernel_rfl) (by simp) ?r11
                  refine AllReadyH.cons (o := ⟨some 68, Op.buildSlice 37 1 #[(0, Operand.tmp 67)], 37, _, _, none⟩) rfl (fun K hK => ?s11) AllReadyH.nil
                  go_simp
                  have HB4 : Hid (Below wr.heap.size wr (w3.alloc (.cells #[.int .i64 q1, .int .i64 q2] 32))) := HB3.out.alloc HB3.out.size _
                  refine hK.out _ _ ?k11 (fun hHeld => ?_)
                  case k11 => exact HSY.out _ HB4.out
                  clear hS
                  have hS := hHeld
                  clear hHeld
                  clear hK K
                  try simp only [Act.put, List.setIfInBounds_toArray, List.set_cons_zero, List.set_cons_succ]
                  refine wpAnyH_ready (rs := [11]) (by kernel_rfl) (by simp) ?r12
                  refine AllReadyH.cons (o := ⟨some 69, Op.call { callee := Callee.builtin Builtin.append, args := #[Operand.tmp 58, Operand.tmp 68], argTypes := #[37, 37] }, 37, _, _, none⟩) rfl (fun K hK => ?s12) AllReadyH.nil
                  refine step_appE el_pt rfl (s := .tmp 58) (x := .tmp 68) rfl (by simp [Act.eval]) (HCY.out _ HB4.out).2.2 (m := 0) (by simp [Act.eval]) (Blk.new w3 _ _) rfl (by intro z hz; simp at hz; rcases hz with rfl | rfl <;> rfl) (by omega) (by omega) (HUA.out _ HB4.out) ?_
                  intro r5 c5 w5 h5 hg5
                  have HF5 : Hid (Fr U [32] wz w5) := (HCY.out _ HB4.out).1.grown (HCY.out _ HB4.out).2.2 (Nat.le_refl _) (by simp) hg5
                  have HW5 : Hid (Below w.heap.size w w5) := HBZ.out.trans ((HF5.out.below HUS.out).mono HWU.out)
                  have HO5 : Hid (QOwn w5 U (.slice (some ⟨r5, 0, none⟩) (q.length + 1) c5) (q ++ [(q1, q2)])) := qown_more h5 [(q1, q2)] rfl rfl
                  clear h5 hg5
                  refine hK.out _ _ ?k12 (fun hHeld => ?_)
                  case k12 => exact HSZ.out _ HF5.out HW5.out
                  clear hS
                  have hS := hHeld
                  clear hHeld
                  clear hK K
                  try simp only [Act.put, List.setIfInBounds_toArray, List.set_cons_zero, List.set_cons_succ]
                  refine wpAnyH_ready (rs := [12]) (by kernel_rfl) (by simp) ?r13
                  refine AllReadyH.cons (o := ⟨some 9, Op.assign (Operand.tmp 69), 37, _, _, none⟩) rfl (fun K hK => ?s13) AllReadyH.nil
                  go_simp
                  refine hK.out _ _ ?k13 (fun hHeld => ?_)
                  case k13 => exact hS
                  clear hS
                  have hS := hHeld
                  clear hHeld
                  clear hK K
                  try simp only [Act.put, List.setIfInBounds_toArray, List.set_cons_zero, List.set_cons_succ]
                  refine wpAnyH_done (by kernel_rfl) ?_ _
                  --DLEH16
                  have HGN : Hid (∀ j (h : j < Q.length), j < k + 1 → badP t Q[j] = false) := by
                    intro j h hj
                    by_cases hjk : j = k
                    · subst hjk
                      rw [HPK.out, HBB.out]; rfl
                    · exact hgood.out j h (by omega)
                  have HQE2 : Hid (q ++ [(q1, q2)] = (Q.take (k + 1)).map (imgP t)) := HTS.out.symm
                  clear hS HSY HUA HBD0 HB3 HB4 HCY HSZ hgood
                  go_wp2_with fail
                  go_roundw
                  case rel => exact ⟨k + 1, q ++ [(q1, q2)], _, rfl, by go_num, by omega, by simp; omega, HQE2, HGN, HO5, HF5⟩
                  case measure => simp [intOf]; omega
            · have hdk : decide ((k : Int) < (Q.length : Int)) = false := by simp; omega
              have HQF : Hid (q = Q.map (imgP t)) := by show _ = _; rw [hqe.out, List.take_of_length_le (by omega)]
              have HGW := HGZ.out.fr hfr.out
              obtain ⟨us, g1, g2, g3, g4⟩ := HGW
              have G1 := Lib.hid g1
              have G2 := Lib.hid g2
              have G3 := Lib.hid g3
              have G4 := Lib.hid g4
              have hIL : IM.length ≤ 1048576 := by rw [HLT.out]; omega
              have hmax : maxLen = 9223372036854775807 := rfl
              have HUW : Hid (U ≤ wr.heap.size) := Nat.le_trans HUS.out hfr.out.size
              have HKW := Lib.hid (hfr.out.blk HKZ.out (by decide))
              have HBS : Hid (w.heap.size ≤ wr.heap.size) := HBJ.out.size
              clear g1 g2 g3 g4 hfr hqe
              go_wp2_with (refine wpList_app (P := Tryd.prog) el_poly (hown := G2.out) (by exact HBS.out) rfl rfl rfl (m := 0) (cs := #[.slice xv q.length cv]) rfl (by intro z hz; simp at hz; rw [hz]; rfl) rfl (by omega) (by omega) ?_)
              intro r5 cap5 w5 h5 hg5 hr5
              have HGN : Hid (GOwn w5 w.heap.size w5.heap.size (.slice (some ⟨r5, 0, none⟩) (IM.length + 1) cap5) ((ps.take (i + 1)).map (·.map (imgP t)))) := by
                show GOwn _ _ _ _ _
                rw [HTI.out, ← HQF.out]
                exact GOwn.app G1.out G2.out G3.out G4.out HUW.out hqo.out rfl h5 hg5
              have HBN := Lib.hid (below_app HBJ.out HBJ.out.size G2.out hg5)
              have HKN := Lib.hid ((((Fr.refl w.heap.size [37] wr).alloc (.cells #[.slice xv q.length cv] 37)).grown (World.ownsRow.alloc G2.out _) (Nat.le_refl _) (by simp) hg5).blk HKW.out (by decide))
              have HGD2 : Hid (∀ j (h : j < ps.length), j < i + 1 → ∀ p ∈ ps[j], badP t p = false) := by
                intro j h hj p hp
                by_cases hji : j = i
                · subst hji
                  rw [HQE.out] at hp
                  obtain ⟨k', hk', rfl⟩ := List.getElem_of_mem hp
                  exact hgood.out k' hk' (by omega)
                · exact hbd.out j h (by omega) p hp
              clear h5 hg5 hr5 G1 G2 G3 G4 hqo hgood
              go_wp2_with fail
              go_roundw
              case rel => exact ⟨i + 1, _, rfl, by go_num, by omega, HGN, HGD2, HKN, Lib.hid HBN.out.1⟩
              case measure => simp [intOf]; omega
        · have hd : decide ((i : Int) < (ps.length : Int)) = false := by simp; omega
          have HALL : Hid (∀ q ∈ ps, ∀ p ∈ q, badP t p = false) := by
            intro q hq p hp
            obtain ⟨j, hj, rfl⟩ := List.getElem_of_mem hq
            exact hbd.out j hj (by omega) p hp
          have HFI : Hid (GRow wr (.slice xo ((ps.take i).map (·.map (imgP t))).length co) (ps.map (·.map (imgP t)))) := by
            have h1 := how.out.row
            have e : ps.take i = ps := List.take_of_length_le (by omega)
            rw [e] at h1 ⊢
            exact h1
          clear how hbd hka
          generalize ((ps.take i).map (·.map (imgP t))).length = N at *
          go_wp2_with fail
          go_ret2
          exact ⟨by rw [HRR.out, if_pos HALL.out]; exact ⟨_, rfl, HFI.out⟩, hbw.out⟩
  · have HR : Hid (∀ e w', ShOk t ps e w' = (e = .returned (.tuple #[.slice none 0 0, .int .i64 (afChk t)]))) := by
      intro e w'; unfold ShOk; rw [if_pos h0]
    generalize afChk t = z at *
    have hz : (z != 0) = true := by simpa using h0
    clear HSR h0
    go_enter Tryd.func22, Tryd.ntmps22
    go_wp2_with fail
    refine (HCK.out _).mono ?_
    rintro e w1 ⟨rfl, hb1⟩
    have HB1 := Lib.hid (HBX.out.trans (hb1.mono HBX.out.size))
    clear hb1 HCK
    go_wp2_with fail
    go_ret2
    exact ⟨by rw [HR.out]; rfl, HB1.out⟩
end Go.Proofs.YtgjbelcnkmcbiaaDoor
