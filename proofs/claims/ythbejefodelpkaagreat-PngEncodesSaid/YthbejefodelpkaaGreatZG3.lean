/-
  Plain: the chunks of a file. Walk: png.Chunks.
-/
import Derived.Test.YthbejefodelpkaaGreatZG2
import Derived.Test.YthbejefodelpkaaGreatZE
import Derived.Test.YthbejefodelpkaaGreatZV
namespace Go.Proofs.YthbejefodelpkaaGreat
open Go.RowKit
set_option maxRecDepth 100000

def sigP : List UInt8 := [137, 80, 78, 71, 13, 10, 26, 10]
def iendP : List UInt8 := [73, 69, 78, 68]
/-- One chunk. -/
def ckStep (r : List UInt8) : Except Nat (Mt × List UInt8) :=
  if r.length < 8 then .error 5 else if 1048576 < beP (r.take 4) then .error 3 else if nameP ((r.take 8).drop 4) = false then .error 13 else if r.length < 12 + beP (r.take 4) then .error 5
  else if beP ((r.take (12 + beP (r.take 4))).drop (8 + beP (r.take 4))) ≠ crcP ((r.take (8 + beP (r.take 4))).drop 4) then .error 7
  else .ok (((r.take 8).drop 4, (r.take (8 + beP (r.take 4))).drop 8), r.drop (12 + beP (r.take 4)))
def ckGo : Nat → List Mt → List UInt8 → Except Nat (List Mt)
  | 0, _, _ => .error 5
  | f + 1, acc, r => match ckStep r with
    | .error e => .error e
    | .ok (c, q) => if c.1 = iendP then (if c.2 ≠ [] then .error 4 else if q ≠ [] then .error 6 else .ok (acc ++ [c])) else ckGo f (acc ++ [c]) q
def chunksP (s : List UInt8) : Except Nat (List Mt) := if begP sigP s = true then ckGo (s.length + 1) [] (s.drop 8) else .error 4
theorem ckStep_rest {r : List UInt8} {c : Mt} {q : List UInt8} (h : ckStep r = .ok (c, q)) : q = r.drop (12 + beP (r.take 4)) ∧ 12 + beP (r.take 4) ≤ r.length ∧ c = ((r.take 8).drop 4, (r.take (8 + beP (r.take 4))).drop 8) := by
  unfold ckStep at h
  split at h; · cases h
  split at h; · cases h
  split at h; · cases h
  split at h; · cases h
  split at h; · cases h
  injection h with h
  injection h with h1 h2
  exact ⟨h2.symm, by omega, h1.symm⟩
theorem ckGo_fuel (f : Nat) : ∀ g acc r, r.length < f → r.length < g → ckGo f acc r = ckGo g acc r := by
  induction f with
  | zero => intro g acc r h; omega
  | succ f ih =>
    intro g acc r h1 h2
    cases g with
    | zero => omega
    | succ g =>
      unfold ckGo
      cases hs : ckStep r with
      | error e => rfl
      | ok x =>
        obtain ⟨c, q⟩ := x
        have hr := ckStep_rest hs
        have hl : q.length < r.length := by rw [hr.1, List.length_drop]; omega
        simp only
        rw [ih g (acc ++ [c]) q (by omega) (by omega)]
/-- What Chunks answers. -/
def CkOk (r : Except Nat (List Mt)) (e : Ending) (w' : World) : Prop :=
  match r with
  | .error k => e = .returned (.tuple #[.slice none 0 0, .int .i64 (k : Nat)])
  | .ok l => ∃ v, e = .returned (.tuple #[v, .int .i64 0]) ∧ MRow w' v l
/-- The slice value v owns a row of chunks. -/
def COwn (w : World) (base : Nat) (v : Value) (l : List Mt) : Prop := w.ownsRow base 53 2 v l.length (mcells l)
theorem COwn.row {w : World} {base : Nat} {v : Value} {l : List Mt} (h : COwn w base v l) : MRow w v l := by
  rcases h.2 with ⟨rfl, h0⟩ | ⟨g, cap, cur, rfl, _, hg, hc, hm, _⟩
  · have : l = [] := List.eq_nil_of_length_eq_zero h0
    subst this
    exact mrow_nil w
  · refine ⟨_, cap, rfl, hc, hm, (fun h => by cases h), fun _ => ⟨g, 0, rfl, fun i hi => ?_⟩⟩
    have hgt := mcells_get l i hi
    have a1 := World.ownsRow.cells h (g := g) rfl _ _ hgt.1
    have a2 := World.ownsRow.cells h (g := g) rfl _ _ hgt.2
    rw [Addr.add_lit] at a1 a2
    exact ⟨a1, by simpa [Nat.add_assoc] using a2⟩
theorem cown_more {w : World} {base : Nat} {v : Value} {n : Nat} {l : List Mt} {xs : List Value} (h : w.ownsRow base 53 2 v n (mcells l ++ xs)) (new : List Mt) (hx : xs = mcells new) (hn : n = l.length + new.length) : COwn w base v (l ++ new) := by
  subst hx; subst hn
  unfold COwn
  rw [mcells_append, List.length_append]
  exact h
theorem COwn.shape {w : World} {base : Nat} {v : Value} {l : List Mt} (h : COwn w base v l) : ∃ x c, v = .slice x l.length c := by
  rcases h.2 with ⟨rfl, h0⟩ | ⟨g, cap, cur, rfl, _⟩
  · exact ⟨none, 0, by rw [h0]⟩
  · exact ⟨_, _, rfl⟩
theorem el_chunk : Elem Tryz.prog 22 53 (.agg #[.string ⟨#[]⟩, .string ⟨#[]⟩]) 2 32 := by
  refine ⟨Tryz.underlying22, ?_, rfl, by decide⟩
  exact info_parts (by kernel_rfl)
theorem el2 (s : ByteArray) (a b : Nat) : (s.extract a b).data.toList = (s.data.toList.take b).drop a := extract_list s a b

set_option maxHeartbeats 4000000 in
theorem chunks_any (s : ByteArray) (w : World) (hs : s.size ≤ 100000000) : Calls Tryz.prog 12 #[.string s] w fun e w' => CkOk (chunksP s.data.toList) e w' ∧ Below w.heap.size w w' := by
  have HPR := Lib.hid (fun w => hasPre_any s ⟨sigP.toArray⟩ w)
  have hpe : Hid ((⟨sigP.toArray⟩ : ByteArray).data.toList = sigP) := rfl
  rw [hpe.out] at HPR
  have HPL := Lib.hid (show begP sigP s.data.toList = true → 8 ≤ s.size from fun h => by
    unfold begP at h
    simp at h
    have := h.1
    simpa [sigP] using this)
  unfold sigP at HPR
  have HSZ : Hid (s.data.toList.length = s.size) := by show _ = _; simp
  obtain ⟨bg, hbg⟩ : ∃ b, begP sigP s.data.toList = b := ⟨_, rfl⟩
  have hbg2 := hbg
  unfold sigP at hbg2
  rw [hbg2] at HPR
  clear hbg2 hpe
  cases bg with
  | false =>
    have HC : Hid (chunksP s.data.toList = .error 4) := by show _ = _; unfold chunksP; rw [hbg]; rfl
    clear hbg
    go_enter Tryz.func12, Tryz.ntmps12
    go_wp2_with fail
    refine (HPR.out _).mono ?_
    rintro e w1 ⟨rfl, rfl⟩
    go_wp2_with fail
    go_ret2
    exact ⟨by rw [HC.out]; rfl, Below.refl _ _⟩
  | true =>
    have h8 := HPL.out hbg
    have HC : Hid (chunksP s.data.toList = ckGo ((s.data.toList.drop 8).length + 1) [] (s.data.toList.drop 8)) := by
      show _ = _
      unfold chunksP
      rw [if_pos hbg]
      exact ckGo_fuel _ _ _ _ (by rw [List.length_drop]; omega) (by omega)
    have HXL : Hid ((s.extract 8 s.size).data.toList = s.data.toList.drop 8) := by show _ = _; rw [extract_list, List.take_of_length_le (by rw [HSZ.out]; omega)]
    have hxs : (s.extract 8 s.size).size = s.size - 8 := by simp
    clear hbg HPL
    go_enter Tryz.func12, Tryz.ntmps12
    go_wp2_with fail
    refine (HPR.out _).mono ?_
    rintro e w1 ⟨rfl, rfl⟩
    go_wp2_with fail
    generalize s.extract 8 s.size = x0 at *
    rw [← HXL.out] at HC
    go_loopw [0, 4] (fun vs vl wr => ∃ (r : ByteArray) (acc : List Mt) (x : Option Addr) (c : Nat), vs = .string r ∧ vl = .slice x acc.length c ∧ r.size ≤ 100000000 ∧ Hid (acc.length * 12 + r.size ≤ 100000000) ∧ Hid (COwn wr w.heap.size (.slice x acc.length c) acc) ∧ Hid (chunksP s.data.toList = ckGo (r.data.toList.length + 1) acc r.data.toList) ∧ Hid (Below w.heap.size w wr)) (fun vs _ _ => strLen vs)
    case atStart => exact ⟨x0, [], none, 0, rfl, rfl, by omega, by show _ ≤ _; simp; omega, World.ownsRow_nil _ _ _ _, HC.out, Below.refl _ _⟩
    case round =>
      obtain ⟨r, acc, x, c, rfl, rfl, hr, hra, how, hgo, hbw⟩ := hrel
      have HRL : Hid (r.data.toList.length = r.size) := by show _ = _; simp
      have HGN : Hid (ckGo (r.data.toList.length + 1) acc r.data.toList = match ckStep r.data.toList with
          | .error e => .error e
          | .ok (c, q) => if c.1 = iendP then (if c.2 ≠ [] then .error 4 else if q ≠ [] then .error 6 else .ok (acc ++ [c])) else ckGo r.data.toList.length (acc ++ [c]) q) := rfl
      by_cases hl8 : r.size < 8
      · have hd8 : decide ((r.size : Int) < 8) = true := by simp; omega
        have HE : Hid (chunksP s.data.toList = .error 5) := by
          show _ = _
          rw [hgo.out, HGN.out]
          unfold ckStep
          rw [if_pos (by rw [HRL.out]; exact hl8)]
        clear how hgo hra
        go_wp2_with fail
        go_ret2
        exact ⟨by rw [HE.out]; rfl, hbw.out⟩
      have hd8 : decide ((r.size : Int) < 8) = false := by simp; omega
      have HN := Lib.hid (fun w => gnumber_any (r.extract 0 4) w (by simp; omega))
      have e4 : (r.extract 0 4).data.toList = r.data.toList.take 4 := by rw [extract_list]; simp
      rw [e4] at HN
      obtain ⟨n, hn⟩ : ∃ n, beP (r.data.toList.take 4) = n := ⟨_, rfl⟩
      have hnlt : n < 4294967296 := by
        rw [← hn]
        have h1 := beP_lt (r.data.toList.take 4)
        have h2 : 256 ^ (r.data.toList.take 4).length ≤ 256 ^ 4 := Nat.pow_le_pow_right (by decide) (by rw [List.length_take]; omega)
        omega
      rw [hn] at HN
      obtain ⟨K0, hK0⟩ : ∃ K0, K0 = wr.heap.size := ⟨_, rfl⟩
      have HBU : Hid (∀ u : BW K0 wr, Below wr.heap.size wr u.w) := fun u => u.b.mono (by omega)
      clear hK0 e4
      go_upto_region 7 with fail
      refine wp_region_bw K0 wr (Below.refl _ _) (by kernel_rfl) (by kernel_rfl) ?_
      repeat (go_big_quiet_step (first | (go_at_call 32; exact calls_bw_same (HN.out _))))
      refine wpQuiet_nil ?_
      rintro _ ⟨v9, rfl⟩
      have HB1 := Lib.hid (HBU.out v9)
      generalize v9.w = w1 at *
      clear HBU HN
      have HCK1 : Hid (ckStep r.data.toList = if 1048576 < n then .error 3 else if nameP ((r.data.toList.take 8).drop 4) = false then .error 13 else if r.size < 12 + n then .error 5
          else if beP ((r.data.toList.take (12 + n)).drop (8 + n)) ≠ crcP ((r.data.toList.take (8 + n)).drop 4) then .error 7
          else .ok (((r.data.toList.take 8).drop 4, (r.data.toList.take (8 + n)).drop 8), r.data.toList.drop (12 + n))) := by
        show _ = _
        unfold ckStep
        rw [HRL.out, if_neg hl8, hn]
      have HER : Hid (∀ k : Nat, ckStep r.data.toList = .error k → chunksP s.data.toList = .error k) := by
        intro k hk
        rw [hgo.out, HGN.out, hk]
      have HW1 := Lib.hid (hbw.out.trans (HB1.out.mono hbw.out.size))
      clear hn
      by_cases hlim : 1048576 < n
      · have hdl : decide ((1048576 : Int) < (n : Int)) = true := by simp; omega
        have HE := Lib.hid (HER.out 3 (by rw [HCK1.out, if_pos hlim]))
        clear how hgo hra HER
        go_wp2_with fail
        go_ret2
        exact ⟨by rw [HE.out]; rfl, HW1.out⟩
      have hdl : decide ((1048576 : Int) < (n : Int)) = false := by simp; omega
      have HNA := Lib.hid (fun w => gisName_any (r.extract 4 8) w)
      rw [el2] at HNA
      obtain ⟨nb, hnb⟩ : ∃ b, nameP ((r.data.toList.take 8).drop 4) = b := ⟨_, rfl⟩
      rw [hnb] at HNA
      have HNB := Lib.hid hnb
      clear hnb
      go_wp2_with fail
      refine (HNA.out _).mono ?_
      rintro e w2 ⟨rfl, rfl⟩
      clear HNA
      cases nb with
      | false =>
        have HE := Lib.hid (HER.out 13 (by rw [HCK1.out, if_neg hlim, if_pos HNB.out]))
        clear how hgo hra HER
        go_wp2_with fail
        go_ret2
        exact ⟨by rw [HE.out]; rfl, HW1.out⟩
      | true =>
        by_cases hsh : r.size < 12 + n
        · have hds : decide ((r.size : Int) < 12 + (n : Int)) = true := by simp; omega
          have HE := Lib.hid (HER.out 5 (by rw [HCK1.out, if_neg hlim, if_neg (by rw [HNB.out]; decide), if_pos hsh]))
          clear how hgo hra HER
          go_wp2_with fail
          go_ret2
          exact ⟨by rw [HE.out]; rfl, HW1.out⟩
        have hds : decide ((r.size : Int) < 12 + (n : Int)) = false := by simp; omega
        have HN := Lib.hid (fun w => gnumber_any (r.extract (8 + n) (12 + n)) w (by simp; omega))
        have HCR := Lib.hid (fun w => crc_any (r.extract 4 (8 + n)) w (by unfold maxLen; simp; omega))
        rw [el2] at HN HCR
        obtain ⟨m1, hm1⟩ : ∃ m, beP ((r.data.toList.take (12 + n)).drop (8 + n)) = m := ⟨_, rfl⟩
        obtain ⟨m2, hm2⟩ : ∃ m, crcP ((r.data.toList.take (8 + n)).drop 4) = m := ⟨_, rfl⟩
        have hml : m2 < 4294967296 := by rw [← hm2]; exact crcP_lt _
        rw [hm1] at HN
        rw [hm2] at HCR
        have HM1 := Lib.hid hm1
        have HM2 := Lib.hid hm2
        have hcv : wrap64 (m2 : Int) = (m2 : Int) := by unfold wrap64; omega
        obtain ⟨K0, hK0⟩ : ∃ K0, K0 = w1.heap.size := ⟨_, rfl⟩
        have HK0 : Hid (K0 ≤ w1.heap.size) := by show _ ≤ _; omega
        have HBU : Hid (∀ u : BW K0 w1, Below w1.heap.size w1 u.w) := fun u => u.b.mono (by omega)
        clear hK0 hm1 hm2
        go_upto_region 14 with fail
        refine wp_region_bw K0 w1 (Below.refl _ _) (by kernel_rfl) (by kernel_rfl) ?_
        repeat (go_big_quiet_step (first | (go_at_call 32; exact calls_bw_same (HN.out _)) | (go_at_call 34; exact calls_bw HK0.out (HCR.out _))))
        refine wpQuiet_nil ?_
        rintro _ ⟨v9, rfl⟩
        have HB3 := Lib.hid (HBU.out v9)
        generalize v9.w = w3 at *
        clear HBU HN HCR HK0
        have HW3 := Lib.hid (HW1.out.trans (HB3.out.mono HW1.out.size))
        by_cases hmm : m1 = m2
        · have hmb : ((m1 : Int) != (m2 : Int)) = false := by simp; omega
          obtain ⟨nm, hnm⟩ : ∃ l, (r.data.toList.take 8).drop 4 = l := ⟨_, rfl⟩
          obtain ⟨dt, hdt⟩ : ∃ l, (r.data.toList.take (8 + n)).drop 8 = l := ⟨_, rfl⟩
          have HST : Hid (ckStep r.data.toList = .ok ((nm, dt), r.data.toList.drop (12 + n))) := by
            show _ = _
            rw [HCK1.out, if_neg hlim, if_neg (by rw [HNB.out]; decide), if_neg hsh, if_neg (by rw [HM1.out, HM2.out]; exact fun h => h hmm), hnm, hdt]
          have e1 : (r.extract 4 8).data.toList = nm := by rw [el2, hnm]
          have e2 : (r.extract 8 (8 + n)).data.toList = dt := by rw [el2, hdt]
          have HX : Hid ([Value.string (r.extract 4 8), Value.string (r.extract 8 (8 + n))] = mcells [(nm, dt)]) := by
            show _ = _
            simp only [mcells, mcell, List.flatMap_cons, List.flatMap_nil, List.append_nil]
            rw [← e1, ← e2]
          have HQ : Hid ((r.extract (12 + n) r.size).data.toList = r.data.toList.drop (12 + n)) := by
            show _ = _
            rw [el2, List.take_of_length_le (by rw [HRL.out]; omega)]
          have hqs : (r.extract (12 + n) r.size).size = r.size - (12 + n) := by simp
          have HQS := Lib.hid hqs
          have hown : w3.ownsRow w.heap.size 53 2 (.slice x acc.length c) acc.length (mcells acc) := (Fr.of_below (B := 0) (HB1.out.trans (HB3.out.mono HB1.out.size)) []).owns how.out (by simp)
          have HOWN := Lib.hid hown
          have hszr := HW3.out.size
          have hal : acc.length * 12 + r.size ≤ 100000000 := hra.out
          have HRA := Lib.hid hal
          have hal2 : (acc.length + 1) * 32 ≤ 140737488355328 := by omega
          have hal3 : acc.length + 1 ≤ 9223372036854775807 := by omega
          have hnl : (r.extract 4 8).toList = nm := by rw [ByteArray.toList_eq, e1]
          have HNL := Lib.hid hnl
          clear e1 e2 hnm hdt hqs how hra hal hnl hmm
          go_wp2_with (at_builtin; refine wpList_app el_chunk hown hszr rfl rfl rfl (m := 0) rfl (by simp [Value.oneCell']) rfl (by omega) (by unfold maxLen; omega) ?_)
          intro r2 cap2 w5 ho5 hg5 _
          have HO5 : Hid (COwn w5 w.heap.size (.slice (some ⟨r2, 0, none⟩) (acc.length + 1) cap2) (acc ++ [(nm, dt)])) := cown_more ho5 [(nm, dt)] HX.out rfl
          have HB5 : Hid (Below w.heap.size w w5) := (below_app HW3.out hszr HOWN.out hg5).1
          clear ho5 hg5 hszr hal2 hal3
          have HGS : Hid (chunksP s.data.toList = if nm = iendP then (if dt ≠ [] then .error 4 else if r.data.toList.drop (12 + n) ≠ [] then .error 6 else .ok (acc ++ [(nm, dt)])) else ckGo r.data.toList.length (acc ++ [(nm, dt)]) (r.data.toList.drop (12 + n))) := by
            show _ = _
            rw [hgo.out, HGN.out, HST.out]
          rw [← HQ.out] at HGS
          have HO6 : Hid (w5.ownsRow w.heap.size 53 2 (.slice (some ⟨r2, 0, none⟩) (acc.length + 1) cap2) (acc.length + 1) (mcells (acc ++ [(nm, dt)]))) := by
            have h := HO5.out
            unfold COwn at h
            rw [List.length_append] at h
            exact h
          by_cases hi : nm = iendP
          · have hie : ((r.extract 4 8).toList == [73, 69, 78, 68]) = true := by rw [HNL.out, hi]; rfl
            have hw1 : wrap64 (acc.length : Int) = (acc.length : Int) := by have := HRA.out; unfold wrap64; omega
            have hw2 : (0 : Int) ≤ (acc.length : Int) := by omega
            have hw3 : (acc.length : Int) < (acc.length : Int) + 1 := by omega
            have hcl : w5.cell? ⟨r2, acc.length * 2 + 1, none⟩ = some (.string ⟨dt.toArray⟩) := by
              rw [World.ownsRow.cellAt HO6.out _ (by omega)]
              have h := (mcells_get (acc ++ [(nm, dt)]) acc.length (by simp)).2
              rw [h]
              simp
            rw [if_pos hi] at HGS
            clear hgo HGN HCK1 HER HST hi
            by_cases hd0 : dt = []
            · have hdd : dt.isEmpty = true := by rw [hd0]; rfl
              rw [if_neg (by rw [hd0]; simp)] at HGS
              by_cases hq0 : (r.extract (12 + n) r.size).data.toList = []
              · have hqq : (r.extract (12 + n) r.size).toList.isEmpty = true := by rw [ByteArray.toList_eq, hq0]; rfl
                rw [if_neg (by rw [hq0]; simp)] at HGS
                have HFI : Hid (CkOk (chunksP s.data.toList) (.returned (.tuple #[.slice (some ⟨r2, 0, none⟩) (acc.length + 1) cap2, .int .i64 0])) w5) := by
                  show CkOk _ _ _
                  rw [HGS.out]
                  exact ⟨_, rfl, HO5.out.row⟩
                clear hd0 hq0
                go_wp2_with fail
                go_ret2
                exact ⟨HFI.out, HB5.out⟩
              · have hqq : (r.extract (12 + n) r.size).toList.isEmpty = false := by rw [ByteArray.toList_eq]; simpa using hq0
                rw [if_pos hq0] at HGS
                clear hd0 hq0
                go_wp2_with fail
                go_ret2
                exact ⟨by rw [HGS.out]; rfl, HB5.out⟩
            · have hdd : dt.isEmpty = false := by simpa using hd0
              rw [if_pos hd0] at HGS
              clear hd0
              go_wp2_with fail
              go_ret2
              exact ⟨by rw [HGS.out]; rfl, HB5.out⟩
          · have hie : ((r.extract 4 8).toList == [73, 69, 78, 68]) = false := by rw [HNL.out]; simpa [iendP] using hi
            rw [if_neg hi] at HGS
            have hqn := HQS.out
            obtain ⟨q, hq⟩ : ∃ q, r.extract (12 + n) r.size = q := ⟨_, rfl⟩
            rw [hq] at hqn HGS
            have HGF : Hid (chunksP s.data.toList = ckGo (q.data.toList.length + 1) (acc ++ [(nm, dt)]) q.data.toList) := by
              show _ = _
              rw [HGS.out]
              have hql : q.data.toList.length = q.size := by simp
              exact ckGo_fuel _ _ _ _ (by rw [HRL.out, hql]; omega) (by omega)
            clear hgo HGN HCK1 HER HST hi HGS HQ HQS
            go_wp2_with fail
            go_roundw
            case rel => exact ⟨q, acc ++ [(nm, dt)], some ⟨r2, 0, none⟩, cap2, by rw [hq], by simp, by omega, by have := HRA.out; show _ ≤ _; simp; omega, by show COwn _ _ _ _; simpa using HO5.out, HGF.out, HB5.out⟩
            case measure => show (r.extract (12 + n) r.size).size < r.size; rw [hq]; omega
        · have hmb : ((m1 : Int) != (m2 : Int)) = true := by simp; omega
          have HE := Lib.hid (HER.out 7 (by rw [HCK1.out, if_neg hlim, if_neg (by rw [HNB.out]; decide), if_neg hsh, if_pos (by rw [HM1.out, HM2.out]; exact hmm)]))
          clear how hgo hra HER hmm
          go_wp2_with fail
          go_ret2
          exact ⟨by rw [HE.out]; rfl, HW3.out⟩
end Go.Proofs.YthbejefodelpkaaGreat
