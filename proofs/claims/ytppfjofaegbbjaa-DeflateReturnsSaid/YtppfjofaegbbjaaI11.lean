/-
  Walk: code lengths written with a code, in the program.
-/
import Derived.Test.YtppfjofaegbbjaaI7
import Derived.Test.YtppfjofaegbbjaaI10
import Derived.Deep.CutBlock
import Derived.Deep.CutRange
namespace Go.Proofs.Ytppfjofaegbbjaa
open Go.RowKit

theorem Fr.grown_new {B : Nat} {T : List TypeId} {a w w' : World} (h : Fr B T a w) {base : Nat} {e : TypeId} {size : Nat} {v : Value} {n : Nat} {xs : List Value} (ho : w.ownsRow base e size v n xs) (hB : a.heap.size ≤ base) (hg : w.grownBy w' v.ownBlock) : Fr B T a w' :=
  ⟨hg.os.trans h.os, hg.tape.trans h.tape, hg.output.trans h.output, Nat.le_trans h.size hg.size, fun k hk hc => by
    refine (hg.block k (Nat.lt_of_lt_of_le hk h.size) ?_).trans (h.block k hk hc)
    intro eq
    rcases ho.2 with ⟨rfl, _⟩ | ⟨g, cap, cur, rfl, hbg, _⟩
    · simp [Value.ownBlock] at eq
    · have : k = g := by simpa [Value.ownBlock] using eq
      omega⟩
/-- What reading code lengths promises. -/
def LstOk (s : ByteArray) (most zb : Nat) (v : Value) (r : Except Nat (List Nat × List Bool)) (e : Ending) (w : World) : Prop :=
  match r with
  | .error k => e = .returned (.tuple #[.slice none 0 0, .int .i64 k])
  | .ok (l, b) => (∃ u, e = .returned (.tuple #[u, .int .i64 0]) ∧ IRow w u l) ∧ ∃ p, p ≤ 8 * s.size ∧ b = bitsAt s p ∧ Blk w zb 58 (zc s p most v)
theorem numT_zero (b : List Bool) : numT b 0 = .ok (0, b) := by unfold numT; simp [byteOf]
/-- How a symbol goes on. -/
def lstS (cl : List Nat) (n f : Nat) (acc : List Nat) (value least extra : Nat) (b : List Bool) : Except Nat (List Nat × List Bool) :=
  match numT b extra with
  | .error e => .error e
  | .ok (x, b2) => lstGo cl n f (acc ++ List.replicate (least + x) value) b2

set_option maxRecDepth 100000 in
set_option maxHeartbeats 8000000 in
theorem lengths_any (s : ByteArray) (p most zb db n : Nat) (v : Value) (cl : List Nat) (w : World) (hz : Blk w zb 58 (zc s p most v)) (hd : Dec w db cl) (hl : cl.length ≤ 400) (hs : s.size ≤ 1000000000000000) (hp : p ≤ 8 * s.size) (hn : n ≤ 400) :
    Calls Try.prog 57 #[.pointer (some ⟨zb, 0, none⟩), .pointer (some ⟨db, 0, none⟩), .int .i64 n] w fun e w' => LstOk s most zb v (lstT cl n (bitsAt s p)) e w' ∧ Fr zb [58] w w' := by
  have HD : Hid (lstGo cl n (n + 1) [] (bitsAt s p) = lstT cl n (bitsAt s p)) := rfl
  go_enter Try.func57, Try.ntmps57
  go_wp2_with fail
  obtain ⟨W, hW⟩ : ∃ W, w.heap.size = W := ⟨_, rfl⟩
  have HW := Lib.hid hW
  have hzW : W ≤ w.heap.size := by omega
  clear hW
  go_loopg [8] (n + 1) (fun k v8 wr => ∃ (q : Nat) (acc : List Nat), q ≤ 8 * s.size ∧ n - acc.length < k ∧ acc.length ≤ 600 ∧ Hid (lstGo cl n k acc (bitsAt s q) = lstT cl n (bitsAt s p)) ∧ ORow wr W v8 acc ∧ Blk wr zb 58 (zc s q most v) ∧ Fr zb [58] w wr ∧ W ≤ wr.heap.size)
  case atStart => exact ⟨p, [], hp, by simp, Nat.zero_le _, HD, ⟨rfl, .inl ⟨rfl, rfl⟩⟩, hz, Fr.refl _ _ _, hzW⟩
  case round =>
    clear HD hz hzW
    obtain ⟨q, acc, hq, hk, hal, hlst, hrow, hzr, hfr, hszr⟩ := hrel
    obtain ⟨f, hf⟩ : ∃ f, gk = f + 1 := ⟨gk - 1, by omega⟩
    have hll := hlst.out
    rw [hf] at hll
    unfold lstGo at hll
    have HF := Lib.hid hf
    have hk2 : n - acc.length ≤ f := by omega
    clear hf hlst hk
    obtain ⟨xa, ca, rfl⟩ : ∃ x c, u8 = .slice x acc.length c := by
      rcases hrow.2 with ⟨rfl, h0⟩ | ⟨g, cap, cur, rfl, _⟩
      · exact ⟨none, 0, by rw [h0]⟩
      · exact ⟨_, _, rfl⟩
    by_cases hnl : n ≤ acc.length
    · rw [if_pos hnl] at hll
      have d1 : decide ((acc.length : Int) < (n : Int)) = false := by simp; omega
      by_cases heq : acc.length = n
      · rw [if_pos heq] at hll
        have HE := Lib.hid hll.symm
        have d2 : decide ((n : Int) < (acc.length : Int)) = false := by simp; omega
        clear hll
        go_wp2_with fail
        go_ret2
        refine ⟨?_, hfr⟩
        rw [HE.out]
        exact ⟨⟨_, rfl, hrow.irow⟩, q, hq, rfl, hzr⟩
      · rw [if_neg heq] at hll
        have HE := Lib.hid hll.symm
        have d2 : decide ((n : Int) < (acc.length : Int)) = true := by simp; omega
        clear hll
        go_wp2_with fail
        go_ret2
        refine ⟨?_, hfr⟩
        rw [HE.out]
        rfl
    rw [if_neg hnl] at hll
    have d1 : decide ((acc.length : Int) < (n : Int)) = true := by simp; omega
    have hdr := hd.fr hfr (by decide) (by decide)
    have HLL := Lib.hid hll
    clear hll
    go_wp2_with fail
    refine (symbol_any s q most zb db v cl _ hzr hdr hl hs hq).mono ?_
    rintro e w1 ⟨hst, hf1⟩
    have hll := HLL.out
    clear HLL
    have hfr1 := hfr.trans hf1
    have hrow1 : ORow w1 W (.slice xa acc.length ca) acc := hf1.owns hrow (by decide)
    have hsz1 : W ≤ w1.heap.size := Nat.le_trans hszr hf1.size
    clear hdr hrow hzr hfr hf1 hszr
    cases hn1 : symT cl (bitsAt s q) with
    | error k =>
      rw [hn1] at hst hll
      obtain ⟨rfl, -⟩ := hst
      have HE : Hid (lstT cl n (bitsAt s p) = .error k) := hll.symm
      have hk := symT_err hn1
      have hk1 : ((k : Int) != 0) = true := by simp; omega
      clear hn1 hll
      go_wp2_with fail
      go_ret2
      refine ⟨?_, hfr1⟩
      rw [HE.out]; rfl
    | ok xb =>
      obtain ⟨y, b1⟩ := xb
      rw [hn1] at hst hll
      obtain ⟨rfl, q1, hq1, rfl, hz1⟩ := hst
      simp only at hll
      clear hn1
      have HLL := Lib.hid hll
      clear hll
      go_upto_block 2 with fail
      go_cut [11, 12, 13] from 15 to 63 (fun v11 v12 v13 wx => ∃ value least extra : Nat, v11 = .int .i64 value ∧ v12 = .int .i64 least ∧ v13 = .int .i64 extra ∧ extra ≤ 7 ∧ 1 ≤ least ∧ least ≤ 11 ∧ Hid (lstS cl n f acc value least extra (bitsAt s q1) = lstT cl n (bitsAt s p)) ∧ wx = w1)
      case first =>
        have hll := HLL.out
        clear HLL
        by_cases h16 : y = 16
        · subst h16
          rw [if_pos rfl] at hll
          by_cases h0 : acc.length = 0
          · rw [if_pos h0] at hll
            have HE := Lib.hid hll.symm
            have d3 : ((acc.length : Int) == 0) = true := by rw [h0]; rfl
            clear hll
            go_wp2_with fail
            go_ret2
            refine ⟨?_, hfr1⟩
            rw [HE.out]; rfl
          · rw [if_neg h0] at hll
            have d3 : ((acc.length : Int) == 0) = false := beq_false_of_ne (by omega)
            obtain ⟨g, cap, hv, hcell⟩ : ∃ g cap, Value.slice xa acc.length ca = .slice (some ⟨g, 0, none⟩) acc.length cap ∧ w1.cell? ⟨g, acc.length - 1, none⟩ = some (.int .i64 (acc.getD (acc.length - 1) 0 : Nat)) := by
              rcases hrow1.2 with ⟨hn, h00⟩ | ⟨g, cap, cur, hv, hgB, hgg, _⟩
              · omega
              · refine ⟨g, cap, hv, ?_⟩
                have hj : acc.length - 1 < acc.length := by omega
                have := World.ownsRow.cells hrow1 (g := g) (by rw [hv]; rfl) (acc.length - 1) _ (icells_get acc _ hj)
                rw [Addr.add_lit, Nat.zero_add] at this
                rw [this]
                simp [List.getD, hj]
            cases hv
            have HS : Hid (lstS cl n f acc (acc.getD (acc.length - 1) 0) 3 2 (bitsAt s q1) = lstT cl n (bitsAt s p)) := hll
            obtain ⟨A, hA⟩ : ∃ A, acc.length - 1 = A := ⟨_, rfl⟩
            rw [hA] at hcell HS
            generalize acc.getD A 0 = V at hcell HS
            clear hll d3
            have z2 : (0 : Int) ≤ (A : Int) := by omega
            have d3 : ((acc.length : Int) == 0) = false := beq_false_of_ne (by omega)
            have z3 : IntKind.i64.wrap ((acc.length : Int) - 1) = (A : Int) := by rw [IntKind.wrap_i64]; omega
            have z4 : (A : Int) < (acc.length : Int) := by omega
            clear hA h0
            go_wp2_with fail
            go_meet
            case rel => exact ⟨V, 3, 2, rfl, rfl, rfl, by decide, by decide, by decide, HS, rfl⟩
        · rw [if_neg h16] at hll
          have d16 : ((y : Int) == 16) = false := beq_false_of_ne (by omega)
          by_cases h17 : y = 17
          · subst h17
            rw [if_pos rfl] at hll
            have HS : Hid (lstS cl n f acc 0 3 3 (bitsAt s q1) = lstT cl n (bitsAt s p)) := hll
            clear hll
            go_wp2_with fail
            go_meet
            case rel => exact ⟨0, 3, 3, rfl, rfl, rfl, by decide, by decide, by decide, HS, rfl⟩
          rw [if_neg h17] at hll
          have d17 : ((y : Int) == 17) = false := beq_false_of_ne (by omega)
          by_cases h18 : y = 18
          · subst h18
            rw [if_pos rfl] at hll
            have HS : Hid (lstS cl n f acc 0 11 7 (bitsAt s q1) = lstT cl n (bitsAt s p)) := hll
            clear hll
            go_wp2_with fail
            go_meet
            case rel => exact ⟨0, 11, 7, rfl, rfl, rfl, by decide, by decide, by decide, HS, rfl⟩
          rw [if_neg h18] at hll
          have d18 : ((y : Int) == 18) = false := beq_false_of_ne (by omega)
          have HS : Hid (lstS cl n f acc y 1 0 (bitsAt s q1) = lstT cl n (bitsAt s p)) := by
            show _ = _
            unfold lstS
            rw [numT_zero]
            exact hll
          clear hll h16 h17 h18
          go_wp2_with fail
          go_meet
          case rel => exact ⟨y, 1, 0, rfl, rfl, rfl, by decide, by decide, by decide, HS, rfl⟩
      case rest =>
        obtain ⟨value, least, extra, rfl, rfl, rfl, hex, hle, hle2, hS, rfl⟩ := hcut
        clear HLL
        go_wp2_with fail
        refine (number_any s q1 extra most zb v _ hz1 hs hq1 (by omega)).mono ?_
        rintro e w2 ⟨hok, hf2⟩
        have hst := hok.st hq1
        have hfr2 := hfr1.trans hf2
        have hrow2 : ORow w2 W (.slice xa acc.length ca) acc := hf2.owns hrow1 (by decide)
        have hsz2 : W ≤ w2.heap.size := Nat.le_trans hsz1 hf2.size
        clear hok hrow1 hz1 hfr1 hf2 hsz1
        have hss := hS.out
        unfold lstS at hss
        clear hS
        cases hn2 : numT (bitsAt s q1) extra with
        | error k =>
          rw [hn2] at hst hss
          obtain ⟨rfl, -⟩ := hst
          have HE : Hid (lstT cl n (bitsAt s p) = .error k) := hss.symm
          have hk := numT_err hn2
          have hk1 : ((k : Int) != 0) = true := by simp; omega
          clear hn2 hss
          go_wp2_with fail
          go_ret2
          refine ⟨?_, hfr2⟩
          rw [HE.out]; rfl
        | ok xb =>
          obtain ⟨x, b2⟩ := xb
          rw [hn2] at hst hss
          obtain ⟨rfl, q2, hq2, rfl, hz2⟩ := hst
          have hx := (numT_ok hn2).2.2.2
          have hx7 : x < 128 := Nat.lt_of_lt_of_le hx (by have : 2 ^ extra ≤ 2 ^ 7 := Nat.pow_le_pow_right (by omega) (by omega); simpa using this)
          have HSS := Lib.hid hss
          clear hn2 hss hx
          go_wp2_with fail
          go_loopw [8, 57] (fun va vi ws => ∃ j : Nat, vi = .int .i64 j ∧ j ≤ least + x ∧ ORow ws W va (acc ++ List.replicate j value) ∧ Blk ws zb 58 (zc s q2 most v) ∧ Fr zb [58] w ws ∧ W ≤ ws.heap.size) (fun _ vi _ => least + x - (intOf vi).toNat)
          case atStart => exact ⟨0, rfl, Nat.zero_le _, by simpa using hrow2, hz2, hfr2, hsz2⟩
          case round =>
            clear hrow2 hz2 hfr2 hsz2
            obtain ⟨j, rfl, hj, hrow, hzr, hfr, hszr⟩ := hrel
            by_cases hjl : j < least + x
            · have hd : decide ((j : Int) < (least : Int) + (x : Int)) = true := by simp; omega
              have hown := id hrow
              unfold ORow at hown
              have hlen : (acc ++ List.replicate j value).length = acc.length + j := by simp
              have hvs : ∃ x' c', u8 = .slice x' (acc.length + j) c' := by
                rcases hown.2 with ⟨rfl, h0⟩ | ⟨g, cap, cur, rfl, _⟩
                · exact ⟨none, 0, by rw [← hlen, h0]⟩
                · exact ⟨_, _, by rw [hlen]⟩
              have HX : Hid (acc ++ List.replicate (j + 1) value = (acc ++ List.replicate j value) ++ [value]) := by
                show _ = _
                rw [List.replicate_succ', List.append_assoc]
              rw [hlen] at hown
              have HL := Lib.hid hlen
              clear hlen
              obtain ⟨x', c', rfl⟩ := hvs
              go_wp2_with (at_builtin; refine wpList_app el_int hown hszr rfl rfl rfl (m := 0) rfl (by simp [Value.oneCell']) rfl (by omega) (by unfold maxLen; omega) ?_)
              intro r cap w3 ho hg hat
              have hrow2 : ORow w3 W (.slice (some ⟨r, 0, none⟩) (acc.length + j + 1) cap) (acc ++ List.replicate (j + 1) value) := by
                rw [HX.out]
                exact orow_more ho [value] rfl (by rw [HL.out]; rfl)
              have hfr3 : Fr zb [58] w w3 := (hfr.alloc _).grown_new (World.ownsRow.alloc hown _) (by rw [HW.out]; exact Nat.le_refl _) hg
              have hz3 : Blk w3 zb 58 (zc s q2 most v) := by
                refine (hg.block zb (by simp; exact Nat.lt_succ_of_lt hzr.lt) ?_).trans (hzr.alloc _)
                exact own_blk_ne' hzr hown.2 (by decide)
              have hsz3 : W ≤ w3.heap.size := by have := hg.size; simp at this; omega
              clear ho hg hat hown hrow HX HL hfr hzr hszr
              go_wp2_with fail
              exact ⟨⟨j + 1, by go_num, by omega, hrow2, hz3, hfr3, hsz3⟩, by simp [intOf]; omega⟩
            · have hd : decide ((j : Int) < (least : Int) + (x : Int)) = false := by simp; omega
              obtain rfl : j = least + x := by omega
              go_wp2_with fail
              go_roundg f
              case measure => have := HF.out; omega
              case rel => exact ⟨q2, _, hq2, by simp; omega, by simp; omega, HSS, hrow, hzr, hfr, hszr⟩
end Go.Proofs.Ytppfjofaegbbjaa
