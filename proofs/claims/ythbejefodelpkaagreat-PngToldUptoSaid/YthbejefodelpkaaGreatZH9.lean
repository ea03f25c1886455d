/-
  The law PngTold.
-/
import Derived.Test.YthbejefodelpkaaGreatZH8
import Derived.Lib.ConvBytes
namespace Go.Proofs.YthbejefodelpkaaGreat
open Go.RowKit
set_option maxRecDepth 100000

def ncells (l : List Nat) : List Value := l.map fun n : Nat => Value.int .i64 (n : Int)
/-- The slice value v owns a row of numbers, from block base on. -/
def NRow (w : World) (base : Nat) (v : Value) (l : List Nat) : Prop := w.ownsRow base 3 1 v l.length (ncells l)
theorem el_intN : Elem Tryz.prog 51 3 (.int .i64 0) 1 8 := by
  refine ⟨Tryz.underlying51, ?_, rfl, by decide⟩
  exact info_parts (by kernel_rfl)
theorem nrow_more {w : World} {base : Nat} {v : Value} {n : Nat} {l : List Nat} {xs : List Value} (h : w.ownsRow base 3 1 v n (ncells l ++ xs)) (new : List Nat) (hx : xs = ncells new) (hn : n = l.length + new.length) : NRow w base v (l ++ new) := by
  subst hx; subst hn
  unfold NRow
  have : ncells (l ++ new) = ncells l ++ ncells new := by simp [ncells]
  rw [this, List.length_append]
  exact h
theorem nrow_shape {w : World} {b : Nat} {v : Value} {l : List Nat} (h : NRow w b v l) : ∃ x c, v = .slice x l.length c := by
  rcases h.2 with ⟨rfl, h0⟩ | ⟨g, cap, cur, rfl, _⟩
  · exact ⟨none, 0, by rw [h0]⟩
  · exact ⟨_, _, rfl⟩
theorem nrow_read {w : World} {b : Nat} {v : Value} {l : List Nat} (h : NRow w b v l) (hl : 1 ≤ l.length) : ∃ g c, v = .slice (some ⟨g, 0, none⟩) l.length c ∧ l.length ≤ c ∧ ∀ j (hj : j < l.length), w.cell? ⟨g, j, none⟩ = some (.int .i64 (l[j] : Int)) := by
  rcases h.2 with ⟨rfl, h0⟩ | ⟨g, cap, cur, rfl, _, _, hc, _⟩
  · omega
  · refine ⟨g, cap, rfl, hc, fun j hj => ?_⟩
    have := World.ownsRow.cells h (g := g) rfl j (.int .i64 (l[j] : Int)) (by simp [ncells, hj])
    rw [Addr.add_lit] at this
    simpa using this
theorem below_bytes (w : World) (e : TypeId) (s : ByteArray) : Below w.heap.size w (Lib.bytesWorld w e s) := by
  refine ⟨?_, ?_, ?_, by rw [Lib.bytesWorld_size]; omega, fun k hk => Lib.bytesWorld_at_old w e s k hk⟩
  · simp [Lib.bytesWorld, World.freeze, World.alloc, World.drew, -World.alloc_eq, -World.drew_eq]
  · simp [Lib.bytesWorld, World.freeze, World.alloc, World.drew, -World.alloc_eq, -World.drew_eq]
  · simp [Lib.bytesWorld, World.freeze, World.alloc, World.drew, -World.alloc_eq, -World.drew_eq]
theorem take_frP (l : List Mt) (i : Nat) (h : i < l.length) (m : Mt) (hm : l[i] = m) : frP (l.take (i + 1)) = frP (l.take i) + 12 + m.2.length ∧ plcP 8 (l.take (i + 1)) = plcP 8 (l.take i) ++ List.range' (frP (l.take i) + 4) (8 + m.2.length) := by
  rw [List.take_succ_eq_append_getElem h, hm]
  exact ⟨frP_snoc _ _, plcP_snoc _ _⟩
theorem frP_le (l : List Mt) (i : Nat) : frP (l.take i) ≤ frP l := by
  have h : l = l.take i ++ l.drop i := (List.take_append_drop i l).symm
  have h2 : frP l = frP (l.take i) + ((l.drop i).map fun m => 12 + m.2.length).sum := by
    conv => lhs; rw [h]
    unfold frP
    rw [List.map_append, List.sum_append]
    omega
  omega
theorem frP_size {s : List UInt8} {l : List Mt} (h : chunksP s = .ok l) : frP l = s.length ∧ l ≠ [] := by
  obtain ⟨j1, j2, j3, j4, j5⟩ := join_ok (join_chunks h)
  refine ⟨?_, j3⟩
  rw [j5, List.length_append, ck_sum l (fun m hm => name_len (jErr_names j1 m hm).1)]
  rfl

set_option maxHeartbeats 8000000 in
theorem lawTold (s : ByteArray) (at' c : Int) (w : World) (hs : s.size ≤ 1048576) (h1 : (Lit.int IntKind.u16 at').wf = true) (h2 : (Lit.int IntKind.u8 c).wf = true) :
    Calls Tryz.prog 10 #[.string s, .int .u16 at', .int .u8 c] w fun e w' => e = .returned (.bool true) ∧ Below w.heap.size w w' := by
  have h3 : 0 ≤ c ∧ c < 256 := by
    simp [Lit.wf] at h2
    have a1 : IntKind.u8.min = 0 := rfl
    have a2 : IntKind.u8.max = 255 := rfl
    omega
  obtain ⟨cb, rfl⟩ : ∃ b : UInt8, c = (b.toNat : Int) := ⟨UInt8.ofNat c.toNat, by simp; omega⟩
  have h4 : 0 ≤ at' ∧ at' ≤ 65535 := by
    simp [Lit.wf] at h1
    have a1 : IntKind.u16.min = 0 := rfl
    have a2 : IntKind.u16.max = 65535 := rfl
    omega
  obtain ⟨an, rfl⟩ : ∃ n : Nat, at' = (n : Int) := ⟨at'.toNat, by omega⟩
  have han : an ≤ 65535 := by omega
  clear h1 h2 h3 h4
  have hwa : IntKind.i64.wrap (an : Int) = (an : Int) := by rw [IntKind.wrap_i64]; omega
  have hsl : s.data.toList.length = s.size := by simp
  have HC := Lib.hid (chunks_any s w (by omega))
  have HAW := Lib.hid (fun w => awake_any w)
  obtain ⟨cr, hcr⟩ : ∃ r, chunksP s.data.toList = r := ⟨_, rfl⟩
  have HCE := Lib.hid (fun k (h : cr = .error k) => chunksP_err (hcr.trans h))
  have HCF := Lib.hid (fun l (h : cr = .ok l) => chunks_facts (hcr.trans h))
  have HCS := Lib.hid (fun l (h : cr = .ok l) => frP_size (hcr.trans h))
  have HCT := Lib.hid (fun l (h : cr = .ok l) k hk x hx => told (hcr.trans h) k hk x hx)
  rw [hcr] at HC
  rw [hsl] at HCF HCS
  clear hcr hsl
  go_enter Tryz.func10, Tryz.ntmps10
  go_wp2_with fail
  refine HC.out.mono ?_
  rintro e w1 ⟨he, hb1⟩
  have HB1 := Lib.hid hb1
  clear hb1 HC
  cases cr with
  | error k =>
    have he : e = .returned (.tuple #[.slice none 0 0, .int .i64 (k : Nat)]) := he
    subst he
    have hk := HCE.out k rfl
    have dk : ((k : Int) != 0) = true := by simp; omega
    clear hk HCF HCS HCT
    go_wp2_with fail
    refine (HAW.out _).mono ?_
    rintro e w2 ⟨rfl, hb⟩
    have HB2 := Lib.hid (bthen HB1.out hb)
    clear hb
    go_wp2_with fail
    refine (HAW.out _).mono ?_
    rintro e w3 ⟨rfl, hb⟩
    have HB3 := Lib.hid (bthen HB2.out hb)
    clear hb
    go_wp2_with fail
    go_ret
    exact ⟨rfl, HB3.out⟩
  | ok l =>
  obtain ⟨v, rfl, hrow⟩ := he
  obtain ⟨xl, cl, rfl, hcl1, hcl2, -⟩ := id hrow
  unfold maxLen at hcl2
  obtain ⟨hll, -, -⟩ := HCF.out l rfl
  obtain ⟨hfr, hne⟩ := HCS.out l rfl
  have HTO := Lib.hid (HCT.out l rfl)
  have HR1 := Lib.hid hrow
  clear HCE HCF HCS HCT hrow
  go_wp2_with fail
  refine (HAW.out _).mono ?_
  rintro e w2 ⟨rfl, hb⟩
  have HB2 := Lib.hid (bthen HB1.out hb)
  have HR2 := Lib.hid (HR1.out.below hb)
  clear hb HB1 HR1
  obtain ⟨B, hB⟩ : ∃ B, B = w2.heap.size := ⟨_, rfl⟩
  have HBB := Lib.hid hB
  have HLN := Lib.hid hne
  have HFRL := Lib.hid hfr
  clear hB hne hfr
  go_wp2_with fail
  go_loopw [9, 10, 32] (fun v9 v10 vi wr => ∃ (i f : Nat) (x : Option Addr) (n cc : Nat) (ls : List Nat), v9 = .slice x n cc ∧ v10 = .int .i64 f ∧ vi = .int .i64 i ∧ i ≤ l.length ∧ f ≤ 2000000 ∧ Hid (f = frP (l.take i)) ∧ Hid (ls = plcP 8 (l.take i)) ∧ Hid (NRow wr B (.slice x n cc) ls) ∧ Hid (Below B w2 wr)) (fun _ _ vi _ => l.length - (intOf vi).toNat)
  case atStart => exact ⟨0, 8, none, 0, 0, [], rfl, rfl, rfl, Nat.zero_le _, by decide, rfl, rfl, World.ownsRow_nil _ _ _ _, Below.refl _ _⟩
  case round =>
    obtain ⟨i, f, x, n, cc, ls, rfl, rfl, rfl, hi, hf2, hf, hls, hro, hbw⟩ := hrel
    have HSZ : Hid (B ≤ wr.heap.size) := by show _ ≤ _; rw [HBB.out]; exact hbw.out.size
    by_cases hlt : i < l.length
    · have hd : decide ((i : Int) < (l.length : Int)) = true := by simp; omega
      have i1 : (i : Int) < (l.length : Int) := by omega
      obtain ⟨b, off, hxl, q1, q2⟩ := (HR2.out.below (by rw [← HBB.out]; exact hbw.out)).at2 i hlt rfl
      subst hxl
      obtain ⟨mk, mv, hm⟩ : ∃ mk mv, l[i] = (mk, mv) := ⟨_, _, rfl⟩
      obtain ⟨ht1, ht2⟩ := take_frP l i hlt _ hm
      have hle := frP_le l (i + 1)
      rw [hm] at q1 q2
      simp only at q1 q2 ht1 ht2
      obtain ⟨D, hD⟩ : ∃ D : ByteArray, D = ⟨mv.toArray⟩ := ⟨_, rfl⟩
      have hDs : mv.length = D.size := by rw [hD]; simp [ByteArray.size]
      rw [← hD] at q2
      rw [hDs, ← hf.out] at ht1
      rw [hDs, ← hf.out, ← hls.out] at ht2
      rw [HFRL.out, ht1] at hle
      have HLS : Hid (ls.length ≤ 1048576) := by
        have h := (plcP_len (l.take i) 8).1
        have h2 : frP (l.take i) = 8 + ((l.take i).map fun m => 12 + m.2.length).sum := rfl
        rw [← hls.out] at h
        rw [← hf.out] at h2
        show _ ≤ _
        omega
      have HT1 := Lib.hid ht1
      have HT2 := Lib.hid ht2
      have HV := Lib.hid (Blk.new wr 53 #[.string ⟨mk.toArray⟩, .string D])
      have HBV := Lib.hid (hbw.out.alloc HSZ.out (.cells #[.string ⟨mk.toArray⟩, .string D] 53))
      have HRV : Hid (NRow (wr.alloc (.cells #[.string ⟨mk.toArray⟩, .string D] 53)) B (.slice x n cc) ls) := World.ownsRow.alloc hro.out _
      clear hm hD hDs ht1 ht2 hbw hro hf hls
      go_upto_region 9 with fail
      clear q1 q2
      generalize wr.alloc (.cells #[.string ⟨mk.toArray⟩, .string D] 53) = wv at *
      have HSV : Hid (B ≤ wr.heap.size) := HSZ.out
      generalize wr.heap.size = V at *
      go_wp2_with fail
      go_loopw [9, 13] (fun v9 v13 wr => ∃ (k : Nat) (x : Option Addr) (n cc : Nat) (l2 : List Nat), v9 = .slice x n cc ∧ v13 = .int .i64 k ∧ f + 4 ≤ k ∧ k ≤ f + 12 + D.size ∧ Hid (l2 = ls ++ List.range' (f + 4) (k - (f + 4))) ∧ Hid (NRow wr B (.slice x n cc) l2) ∧ Hid (Blk wr V 53 #[.string ⟨mk.toArray⟩, .string D]) ∧ Hid (Below B w2 wr)) (fun _ v13 _ => f + 12 + D.size - (intOf v13).toNat)
      case atStart => exact ⟨f + 4, x, n, cc, ls, rfl, by go_num, Nat.le_refl _, by omega, by show _ = _; simp, HRV.out, HV.out, HBV.out⟩
      case round =>
        clear HRV HBV HV
        obtain ⟨k, x, n, cc, l2, rfl, rfl, hk1, hk2, hl2, hro, hbv, hbw⟩ := hrel
        have q1 : wr.cell? ⟨V, 1, none⟩ = some (.string D) := hbv.out.cell 1
        by_cases hkd : k < f + 12 + D.size
        · have dk : decide ((k : Int) < (f : Int) + 12 + (D.size : Int)) = true := by simp; omega
          have ds : decide ((k : Int) < (s.size : Int)) = true := by simp; omega
          have hks : k < s.size := by omega
          have hszr : B ≤ wr.heap.size := by rw [HBB.out]; exact hbw.out.size
          have hn : n = l2.length := by obtain ⟨x', c', h⟩ := nrow_shape hro.out; injection h with _ h _
          have hn2 : n ≤ 3200000 := by
            rw [hn, hl2.out, List.length_append, List.length_range']
            have := HLS.out
            omega
          have HNN := Lib.hid hn
          have hro2 := hro.out
          unfold NRow at hro2
          rw [← hn] at hro2
          clear hn
          go_wp2_with (at_builtin; refine wpList_app el_intN hro2 hszr rfl rfl rfl (m := 0) rfl (by simp [Value.oneCell']) rfl (by omega) (by unfold maxLen; omega) ?_)
          intro r2 cap2 w4 ho2 hg2 _
          have hba := hbv.out.alloc (.cells #[.int .i64 (k : Int)] 3)
          have hoa := World.ownsRow.alloc hro2 (.cells #[.int .i64 (k : Int)] 3)
          have HV4 : Hid (Blk w4 V 53 #[.string ⟨mk.toArray⟩, .string D]) := (hg2.block V hba.lt (own_blk_ne' hba hoa.2 (by decide))).trans hba
          have HB4 : Hid (Below B w2 w4) := (hbw.out.alloc hszr (.cells #[.int .i64 (k : Int)] 3)).grown hg2 (by simp; omega) (fun b hb => (World.ownsRow.lt hoa b hb).1)
          have HR4 : Hid (NRow w4 B (.slice (some ⟨r2, 0, none⟩) (n + 1) cap2) (l2 ++ [k])) := nrow_more ho2 [k] rfl (by rw [HNN.out]; rfl)
          have HL4 : Hid (l2 ++ [k] = ls ++ List.range' (f + 4) (k + 1 - (f + 4))) := by
            show _ = _
            rw [show k + 1 - (f + 4) = (k - (f + 4)) + 1 by omega, List.range'_1_concat, hl2.out, show f + 4 + (k - (f + 4)) = k by omega, List.append_assoc]
          clear ho2 hg2 hba hoa hro2 hro hbv hbw hl2 q1
          go_wp2_with fail
          go_roundw
          case rel => exact ⟨k + 1, some ⟨r2, 0, none⟩, n + 1, cap2, l2 ++ [k], rfl, by go_num, by omega, by omega, HL4, HR4, HV4, HB4⟩
          case measure => simp [intOf]; omega
        · have dk : decide ((k : Int) < (f : Int) + 12 + (D.size : Int)) = false := by simp; omega
          have hkk : k = f + 12 + D.size := by omega
          have HNX : Hid (l2 = plcP 8 (l.take (i + 1))) := by show _ = _; rw [hl2.out, HT2.out, hkk, show f + 12 + D.size - (f + 4) = 8 + D.size by omega]
          have HFN : Hid (f + (12 + D.size) = frP (l.take (i + 1))) := by show _ = _; rw [HT1.out]; omega
          clear hl2 hkk
          go_wp2_with fail
          go_roundw
          case rel => exact ⟨i + 1, f + (12 + D.size), x, n, cc, l2, rfl, by go_num, by go_num, by omega, by omega, HFN, HNX, hro, hbw⟩
          case measure => simp [intOf]; omega
    · have hd : decide ((i : Int) < (l.length : Int)) = false := by simp; omega
      have hil : l.take i = l := List.take_of_length_le (by omega)
      rw [hil] at hls
      obtain ⟨hp1, hp2⟩ := plcP_len l 8
      have hp2 := hp2 HLN.out
      rw [← hls.out] at hp1 hp2
      have hps : ls.length ≤ s.size := by
        have h2 : frP l = 8 + (l.map fun m => 12 + m.2.length).sum := rfl
        rw [HFRL.out] at h2
        omega
      obtain ⟨g, cc', hv, hcc, hcell⟩ := nrow_read hro.out (by omega)
      injection hv with hx hn hc
      subst hx hn hc
      have hn0 : ((ls.length : Int) == 0) = false := by rw [beq_eq_false_iff_ne]; omega
      have hn1 : (ls.length : Int) ≠ 0 := by omega
      have hds : decide ((s.size : Int) < (ls.length : Int)) = false := by simp; omega
      obtain ⟨q, hq⟩ : ∃ q, an % ls.length = q := ⟨_, rfl⟩
      have hq1 : (an : Int) % (ls.length : Int) = (q : Int) := by rw [← hq]; simp
      have hql : q < ls.length := by rw [← hq]; exact Nat.mod_lt _ (by omega)
      have hqc : q < cc := by omega
      obtain ⟨k, hk⟩ : ∃ k, ls[q] = k := ⟨_, rfl⟩
      have kq := hcell q hql
      rw [hk] at kq
      have hkm : k ∈ plcP 8 l := by rw [← hls.out, ← hk]; exact List.getElem_mem hql
      have HTK : Hid (k < s.size ∧ ∀ x : UInt8, (∀ hl : k < s.data.toList.length, x ≠ s.data.toList[k]) → ∃ e, decP (s.data.toList.set k x) = .error e) := by
        have hh := fun x hx => HTO.out k hkm x hx
        refine ⟨?_, fun x hx => (hh x hx).2⟩
        by_cases hl : k < s.data.toList.length
        · simpa using hl
        · have := (hh 0 (fun h => absurd h hl)).1
          simpa using this
      have hks := HTK.out.1
      have hksl : k < s.data.toList.length := by simpa using hks
      have HEN : Hid (ls.length = ls.length) := rfl
      clear hcell hkm hq hil hp1 hp2 hls hro HTO hk
      generalize ls.length = NL at *
      have hcv := Lib.run_convert_string_bytes (P := Tryz.prog) wr 9 54 5 s Tryz.underlying9 Tryz.underlying54 Tryz.underlying5
      have hbb := below_bytes wr 5 s
      have hbh := Lib.bytesWorld_at_new wr 5 s
      have hbc := Lib.bytesWorld_cell wr 5 s
      have hq0 : wr.cell? ⟨g, q, none⟩ = some (.int .i64 (k : Int)) := kq
      have hglt : g < wr.heap.size := World.block_lt_of_cell? wr _ kq
      have HK := Lib.hid ((hbb.cell (p := ⟨g, q, none⟩) hglt).trans kq)
      clear kq hq0
      go_upto_region 18 with fail
      clear hcv
      have HBW : Hid (Below B w2 (Lib.bytesWorld wr 5 s)) := hbw.out.trans (hbb.mono HSZ.out)
      have HSG : Hid (B ≤ wr.heap.size) := HSZ.out
      obtain ⟨bc, hbcs⟩ : ∃ x, Lib.bytesCells wr 5 s = x := ⟨_, rfl⟩
      rw [hbcs] at hbh
      have hbl : s.size ≤ bc.size := by rw [← hbcs]; simp [Lib.bytesCells]
      have HBH := Lib.hid hbh
      have HBL := Lib.hid hbl
      have HBC : Hid (∀ j (h : j < s.data.toList.length), bc[j]? = some (.int .u8 (s.data.toList[j].toNat : Int))) := fun j hj => by
        have h := hbc j (by simpa using hj)
        have h2 : (Lib.bytesWorld wr 5 s).cell? ⟨wr.heap.size, j, none⟩ = bc[j]? := cell_of_row _ _ j bc _ _ hbh
        rw [← h2, h, List.getD_eq_getElem?_getD, List.getElem?_eq_getElem hj]
        rfl
      clear hbb hbh hbc hbl hbcs
      generalize Lib.bytesWorld wr 5 s = wz at *
      generalize grownCap wr s.size 0 5 = cap at *
      obtain ⟨G, hG⟩ : ∃ G, G = wr.heap.size := ⟨_, rfl⟩
      rw [← hG] at HBH hglt HSG ⊢
      clear hG hbw
      have kq : wz.cell? ⟨g, q, none⟩ = some (.int .i64 (k : Int)) := HK.out
      obtain ⟨sk, hsk⟩ : ∃ b, s.data.toList[k]'hksl = b := ⟨_, rfl⟩
      have kp : wz.cell? ⟨G, k, none⟩ = some (.int .u8 (sk.toNat : Int)) := by rw [cell_of_row _ _ k bc _ _ HBH.out, HBC.out k hksl, hsk]
      have fp : wz.frozen? ⟨G, k, none⟩ = false := by
        have h := HBH.out
        have h2 := HBL.out
        unfold World.frozen?
        simp only [h]
        simp
        omega
      have HER : Hid (∀ x : UInt8, x ≠ sk → ∃ e, decP (s.data.toList.set k x) = .error e) := fun x hx => HTK.out.2 x (fun hl => by rw [hsk]; exact hx)
      have HST : Hid (∀ x : UInt8, (convert 54 9 (.slice (some ⟨G, 0, none⟩) s.size cap)).run Tryz.prog (wz.setCell ⟨G, k, none⟩ (.int .u8 (x.toNat : Int))) = .ok (.string ⟨(s.data.toList.set k x).toArray⟩) (wz.setCell ⟨G, k, none⟩ (.int .u8 (x.toNat : Int)))) := fun x => by
        have hr : (wz.setCell ⟨G, k, none⟩ (.int .u8 (x.toNat : Int))).heap[G]? = some (.cells (bc.setIfInBounds k (.int .u8 (x.toNat : Int))) 5 (bc.size, bc.size + 1)) := by
          have h := HBH.out
          simp [World.setCell, Array.getElem?_modify, h]
        have hL : (s.data.toList.set k x).length = s.size := by rw [List.length_set]; simp
        have h := run_convert_bytes_back (P := Tryz.prog) (wz.setCell ⟨G, k, none⟩ (.int .u8 (x.toNat : Int))) 54 9 5 ⟨G, 0, none⟩ cap (s.data.toList.set k x) Tryz.underlying54 Tryz.underlying5 Tryz.underlying9 (fun j hj => by
          rw [Addr.add_lit, Nat.zero_add, cell_of_row _ _ j _ _ _ hr]
          rw [List.length_set] at hj
          by_cases hjk : j = k
          · subst hjk
            have hb : j < bc.size := by have := HBL.out; omega
            rw [List.getElem_set_self, Array.getElem?_setIfInBounds_self_of_lt hb]
          · rw [List.getElem_set_ne (fun e => hjk e.symm), Array.getElem?_setIfInBounds_ne (fun e => hjk e.symm)]
            exact HBC.out j hj)
        rw [hL] at h
        exact h
      clear HK HTK HBH HBC hsk hksl
      by_cases heq : sk = cb
      · have deq : ((sk.toNat : Int) == (cb.toNat : Int)) = true := by rw [heq]; simp
        obtain ⟨c2, hc2⟩ : ∃ x : UInt8, x = cb + 1 := ⟨_, rfl⟩
        have hw : ((cb.toNat : Int) + 1) % 256 = (c2.toNat : Int) := by
          rw [hc2, UInt8.toNat_add]
          have h3 : (1 : UInt8).toNat = 1 := rfl
          omega
        clear hc2
        obtain ⟨er, her⟩ := HER.out c2 (by
          intro e
          rw [heq] at e
          have h1 := congrArg UInt8.toNat e
          have h2 := cb.toNat_lt
          have h3 := hw
          omega)
        have her0 := decP_err her
        have hcv2 := HST.out c2
        obtain ⟨S2, hS2⟩ : ∃ S : ByteArray, S = ⟨(s.data.toList.set k c2).toArray⟩ := ⟨_, rfl⟩
        have hS2s : S2.size = s.size := by
          rw [hS2]
          show (s.data.toList.set k c2).toArray.size = _
          rw [List.size_toArray, List.length_set]
          simp
        have hS2d : S2.data.toList = s.data.toList.set k c2 := by rw [hS2]
        rw [← hS2] at hcv2
        have HDX : Hid (∀ w, Calls Tryz.prog 26 #[.string S2] w fun e w' => e = .returned (.tuple #[.agg #[.int .i64 0, .int .i64 0, .slice none 0 0], .slice none 0 0, .int .i64 (er : Nat)]) ∧ Below w.heap.size w w') := fun w => by
          have h := decode_any S2 w (by omega)
          rw [hS2d, her] at h
          exact h
        have der : ((er : Int) != 0) = true := by simp; omega
        have HBP : Hid (Below B w2 (wz.setCell ⟨G, k, none⟩ (.int .u8 (c2.toNat : Int)))) := below_put HBW.out (p := ⟨G, k, none⟩) HSG.out _
        clear hS2 hS2s hS2d her her0 HER HST HBW
        go_upto_region 22 with fail
        clear kq kp fp
        generalize wz.setCell ⟨G, k, none⟩ (.int .u8 (c2.toNat : Int)) = wy at *
        have HYS : Hid (B ≤ wy.heap.size) := by show _ ≤ _; rw [HBB.out]; exact HBP.out.size
        go_wp2_with fail
        refine (HDX.out _).mono ?_
        rintro e w4 ⟨rfl, hb⟩
        have hb4 := (Below.refl w4.heap.size w4).alloc (Nat.le_refl _) (.cells #[.int .i64 0, .int .i64 0, .slice none 0 0] 36)
        have HK4 := Lib.hid (Blk.new w4 36 #[.int .i64 0, .int .i64 0, .slice none 0 0])
        have HB4 := Lib.hid ((HBP.out.trans (hb.mono HYS.out)).trans (hb4.mono (Nat.le_trans HYS.out hb.size)))
        clear hb hb4 HDX HBP HYS hcv2
        go_upto_region 23 with fail
        generalize w4.alloc (.cells #[.int .i64 0, .int .i64 0, .slice none 0 0] 36) = w5 at *
        generalize w4.heap.size = K at *
        have a0 : w5.cell? ⟨K, 0, none⟩ = some (.int .i64 0) := HK4.out.cell 0
        have a1 : w5.cell? ⟨K, 1, none⟩ = some (.int .i64 0) := HK4.out.cell 1
        have a2 : w5.cell? ⟨K, 2, none⟩ = some (.slice none 0 0) := HK4.out.cell 2
        have HSA := Lib.hid (same_any 0 0 (.slice none 0 0) (.slice none 0 0) [] w5 (prow_nil _) (prow_nil _))
        simp only [imgI] at HSA
        have HW5 : Hid (Below w.heap.size w w5) := HB2.out.trans (HB4.out.mono (by rw [HBB.out]; exact HB2.out.size))
        go_wp2_with fail
        refine HSA.out.mono ?_
        rintro e w6 ⟨rfl, hb⟩
        have HB6 := Lib.hid (bthen HW5.out hb)
        clear hb a0 a1 a2 HSA
        go_wp2_with fail
        go_ret
        exact ⟨rfl, HB6.out⟩
      · have deq : ((sk.toNat : Int) == (cb.toNat : Int)) = false := by
          rw [beq_eq_false_iff_ne]
          intro e
          exact heq (UInt8.toNat_inj.1 (by omega))
        obtain ⟨er, her⟩ := HER.out cb (fun e => heq e.symm)
        have her0 := decP_err her
        have hcv2 := HST.out cb
        obtain ⟨S2, hS2⟩ : ∃ S : ByteArray, S = ⟨(s.data.toList.set k cb).toArray⟩ := ⟨_, rfl⟩
        have hS2s : S2.size = s.size := by
          rw [hS2]
          show (s.data.toList.set k cb).toArray.size = _
          rw [List.size_toArray, List.length_set]
          simp
        have hS2d : S2.data.toList = s.data.toList.set k cb := by rw [hS2]
        rw [← hS2] at hcv2
        have HDX : Hid (∀ w, Calls Tryz.prog 26 #[.string S2] w fun e w' => e = .returned (.tuple #[.agg #[.int .i64 0, .int .i64 0, .slice none 0 0], .slice none 0 0, .int .i64 (er : Nat)]) ∧ Below w.heap.size w w') := fun w => by
          have h := decode_any S2 w (by omega)
          rw [hS2d, her] at h
          exact h
        have der : ((er : Int) != 0) = true := by simp; omega
        have HBP : Hid (Below B w2 (wz.setCell ⟨G, k, none⟩ (.int .u8 (cb.toNat : Int)))) := below_put HBW.out (p := ⟨G, k, none⟩) HSG.out _
        clear hS2 hS2s hS2d her her0 HER HST HBW
        go_upto_region 22 with fail
        clear kq kp fp
        generalize wz.setCell ⟨G, k, none⟩ (.int .u8 (cb.toNat : Int)) = wy at *
        have HYS : Hid (B ≤ wy.heap.size) := by show _ ≤ _; rw [HBB.out]; exact HBP.out.size
        go_wp2_with fail
        refine (HDX.out _).mono ?_
        rintro e w4 ⟨rfl, hb⟩
        have hb4 := (Below.refl w4.heap.size w4).alloc (Nat.le_refl _) (.cells #[.int .i64 0, .int .i64 0, .slice none 0 0] 36)
        have HK4 := Lib.hid (Blk.new w4 36 #[.int .i64 0, .int .i64 0, .slice none 0 0])
        have HB4 := Lib.hid ((HBP.out.trans (hb.mono HYS.out)).trans (hb4.mono (Nat.le_trans HYS.out hb.size)))
        clear hb hb4 HDX HBP HYS hcv2
        go_upto_region 23 with fail
        generalize w4.alloc (.cells #[.int .i64 0, .int .i64 0, .slice none 0 0] 36) = w5 at *
        generalize w4.heap.size = K at *
        have a0 : w5.cell? ⟨K, 0, none⟩ = some (.int .i64 0) := HK4.out.cell 0
        have a1 : w5.cell? ⟨K, 1, none⟩ = some (.int .i64 0) := HK4.out.cell 1
        have a2 : w5.cell? ⟨K, 2, none⟩ = some (.slice none 0 0) := HK4.out.cell 2
        have HSA := Lib.hid (same_any 0 0 (.slice none 0 0) (.slice none 0 0) [] w5 (prow_nil _) (prow_nil _))
        simp only [imgI] at HSA
        have HW5 : Hid (Below w.heap.size w w5) := HB2.out.trans (HB4.out.mono (by rw [HBB.out]; exact HB2.out.size))
        go_wp2_with fail
        refine HSA.out.mono ?_
        rintro e w6 ⟨rfl, hb⟩
        have HB6 := Lib.hid (bthen HW5.out hb)
        clear hb a0 a1 a2 HSA
        go_wp2_with fail
        go_ret
        exact ⟨rfl, HB6.out⟩
end Go.Proofs.YthbejefodelpkaaGreat
