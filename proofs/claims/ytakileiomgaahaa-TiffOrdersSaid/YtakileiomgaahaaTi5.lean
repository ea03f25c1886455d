/-
  The program of tiff: the samples of an image, row by row.
-/
import Derived.Test.YtakileiomgaahaaTi4
import Derived.Test.YtakileiomgaahaaOm
import Derived.Deep.CutRange
namespace Go.Proofs.Ytakileiomgaahaa
open Go.RowKit

/-- 'x[i:k]', its address under a name. -/
theorem wpList_slice_lh {P : Program} {w : World} {ops : Array Oper} {rest : List Oper} {o : Oper} {a : Act} {Q : Exit → Act → World → Prop} (hg : o.guard = none) {sOp iOp kOp : Operand} {t : TypeId}
    (ho : o.op = Op.slice t sOp (some iOp) (some kOp) none) (ht : P.underlying t = some (.slice (P.elem t))) {size : Nat} (hsz : ∀ w : World, (sizeOf (P.elem t)).run P w = .ok size w)
    {x : Option Addr} {n c : Nat} (hs : a.eval sOp = .slice x n c) {i k : Nat} (hi : a.eval iOp = .int .i64 (i : Int)) (hk : a.eval kOp = .int .i64 (k : Int)) (hik : i ≤ k) (hkc : k ≤ c)
    (h : ∀ x2, Hid (x2 = cutAt x c i size) → wpList P ops Q rest (a.put o.dst (.slice x2 (k - i) (c - i))) w) : wpList P ops Q (o :: rest) a w := by
  refine wpList_plain hg fun K hK => ?_
  have hr := run_slice_lh (P := P) (w := w) t x n c ht .i64 .i64 (i : Int) (k : Int) (by omega) (by omega) (by omega)
  have hr2 := run_sliceAt_slice (P := P) (w := w) t (.slice x n c) (some (.int .i64 (i : Int))) (some (.int .i64 (k : Int))) none ht
  rw [hr, hsz] at hr2
  simp only [Result.andThen, sliced, Int.toNat_natCast] at hr2
  unfold Oper.wp
  simp [execOp, ho, hs, hi, hk, hr2, Result.andThen]
  exact hK _ _ (h _ rfl)
theorem size_pix (w : World) : (sizeOf (Try.prog.elem 32)).run Try.prog w = .ok 4 w := by kernel_rfl
theorem und_pix : Try.prog.underlying 32 = some (.slice (Try.prog.elem 32)) := by kernel_rfl
theorem PRow.sub {w : World} {x x2 : Option Addr} {n c i k : Nat} {l : List Px} (h : PRow w (.slice x n c) l) (hik : i ≤ k) (hk : k ≤ n) (hx : x2 = cutAt x c i 4) : PRow w (.slice x2 (k - i) (c - i)) ((l.drop i).take (k - i)) := by
  unfold cutAt at hx
  obtain ⟨x', c', hv, h1, h2, h3, h4⟩ := h
  cases hv
  have hl : ((l.drop i).take (k - i)).length = k - i := by rw [List.length_take, List.length_drop]; omega
  refine ⟨x2, c - i, by rw [hl], by omega, by omega, fun h0 => ?_, fun hne => ?_⟩
  · rw [hx] at h0
    split at h0
    · omega
    · have : x = none := by cases x with | none => rfl | some a => cases h0
      have := h3 this
      omega
  · have hlt : i < k := by
      rcases Nat.lt_or_ge i k with h | h
      · exact h
      · exact absurd (List.eq_nil_of_length_eq_zero (by omega)) hne
    obtain ⟨b, off, rfl, hc⟩ := h4 (by rintro rfl; simp at hk; omega)
    rw [if_neg (by omega)] at hx
    refine ⟨b, off + i * 4, by rw [hx]; simp [Addr.add_lit], fun j hj => ?_⟩
    have := hc (i + j) (by omega)
    unfold PCell at this ⊢
    simp only [List.getElem_take, List.getElem_drop]
    have e : off + (i + j) * 4 = off + i * 4 + j * 4 := by rw [Nat.add_mul]; omega
    rw [e] at this
    exact this
theorem brow_cells {w : World} {B : Nat} {e : TypeId} {x : Option Addr} {n c : Nat} {l : List UInt8} (h : BRow w B e (.slice x n c) l) (hne : l ≠ []) : ∃ ad, x = some ad ∧ n = l.length ∧ ∀ j u, (bcells l)[j]? = some u → w.cell? (ad.add j) = some u := by
  rcases h.2 with ⟨hv, h0⟩ | ⟨g, cap, cur, hv, -, hg, -, -, -, htk⟩
  · exact absurd (List.eq_nil_of_length_eq_zero h0) hne
  · cases hv
    refine ⟨_, rfl, rfl, fun j u hu => ?_⟩
    have hj : j < l.length := by have := (List.getElem?_eq_some_iff.1 hu).1; rwa [bcells_length] at this
    rw [Addr.add_lit]
    have hb : Blk w g e cur := hg
    rw [show (⟨g, 0 + j, none⟩ : Addr) = ⟨g, j, none⟩ by simp, hb.cell j]
    have h2 : cur.toList.take (l.length * 1) = bcells l := htk
    have h3 : (cur.toList.take (l.length * 1))[j]? = some u := by rw [h2]; exact hu
    rw [List.getElem?_take, if_pos (by omega)] at h3
    simpa using h3
theorem brow_weaken {w : World} {b b' : Nat} {e : TypeId} {v : Value} {l : List UInt8} (h : BRow w b e v l) (hb : b' ≤ b) : BRow w b' e v l := by
  refine ⟨h.1, ?_⟩
  rcases h.2 with hn | ⟨g, cap, cur, hv, hg, rest⟩
  · exact .inl hn
  · exact .inr ⟨g, cap, cur, hv, Nat.le_trans hb hg, rest⟩
/-- 'append(out, row...)', both the call's own. -/
theorem wpList_app_row {P : Program} {w : World} {ops : Array Oper} {rest : List Oper} {o : Oper} {a : Act} {Q : Exit → Act → World → Prop} {s x : Operand} {t e : TypeId}
    (hE : Elem P t e (.int .u8 0) 1 1) {base B2 : Nat} {v : Value} {l : List UInt8} (hown : BRow w base e v l) (hbase : base ≤ w.heap.size)
    (hgd : o.guard = none) (ho : o.op = .call { callee := .builtin .append, args := #[s, x], argTypes := #[t, t] }) (hs : a.eval s = v)
    {y : Option Addr} {n c : Nat} {r : List UInt8} (hrow : BRow w B2 e (.slice y n c) r) (hne : r ≠ []) (hx : a.eval x = .slice y n c) (hlen : l.length + r.length ≤ 140737488355328)
    (h : ∀ v' w', BRow w' base e v' (l ++ r) → Below base w w' → wpList P ops Q rest (a.put o.dst v') w') : wpList P ops Q (o :: rest) a w := by
  obtain ⟨ht, ⟨i, hi, hz, hsz, hby⟩, hzs, hp⟩ := hE
  obtain ⟨ad, rfl, rfl, hcell⟩ := brow_cells hrow hne
  have hpos : 0 < r.length := List.length_pos_iff.2 hne
  refine wpList_append_lies _ hgd s x t ho base e i (.int .u8 0) 1 1 ht hi hz hsz hby hzs hp v l.length (bcells l) hs hown ad r.length c (bcells r) hx (by rw [bcells_length]; omega) hcell (bcells_one r) hpos (by unfold maxLen; omega) (by omega) hbase w.heap.size rfl ?_
  intro g cap w' h1 h2 _ _
  refine h _ w' (brow_more h1 r rfl (by omega)) ((Below.refl base w).grown h2 hbase (fun k hk => (World.ownsRow.lt hown k hk).1))
/-- The samples of a row, and of all rows. -/
def rowB (d W : Nat) (px : List Px) (y : Nat) : List UInt8 := ((px.drop (y * W)).take W).flatMap (pxT d)
def rowsB (d : Nat) (pk : Bool) (W : Nat) (px : List Px) : Nat → List UInt8
  | 0 => []
  | y + 1 => rowsB d pk W px y ++ (if pk then packP (rowB d W px y) else rowB d W px y)
theorem pxT_len (d : Nat) (p : Px) : (pxT d p).length ≤ 8 ∧ 4 ≤ (pxT d p).length := by
  unfold pxT
  split
  · simp only [List.length_append]
    have h : ∀ v, (smT 16 v).length = 2 := fun v => by unfold smT; rw [if_pos rfl, litB_len]
    rw [h, h, h, h]; omega
  · have h : ∀ v, (smT 8 v).length = 1 := fun v => by unfold smT; rw [if_neg (by decide)]; rfl
    split
    · simp
    · simp only [List.length_append]; rw [h, h, h, h]; omega
theorem flat_len (d : Nat) (l : List Px) : (l.flatMap (pxT d)).length ≤ 8 * l.length ∧ 4 * l.length ≤ (l.flatMap (pxT d)).length := by
  induction l with
  | nil => simp
  | cons p l ih =>
    rw [List.flatMap_cons, List.length_append, List.length_cons]
    have := pxT_len d p
    omega
theorem packF_len (f : Nat) (l : List UInt8) : (packF f l).length ≤ 2 * l.length := by
  induction f generalizing l with
  | zero => simp [packF]
  | succ f ih =>
    cases l with
    | nil => simp [packF]
    | cons b r =>
      rw [packF_cons]
      have hp := runP_le (b :: r)
      have hl := litF_le 128 (b :: r) 1 (by simp) (by decide)
      have hg : 1 ≤ litN (b :: r) := litF_ge 128 (b :: r) 1
      split
      · rename_i h
        have := ih ((b :: r).drop (runP (b :: r)))
        simp only [List.length_cons, List.length_drop] at *
        omega
      · have := ih ((b :: r).drop (litN (b :: r)))
        have e : litN (b :: r) = litF 128 (b :: r) 1 := rfl
        simp only [List.length_cons, List.length_drop, List.length_append, List.length_take] at *
        omega
theorem packP_len (l : List UInt8) : (packP l).length ≤ 2 * l.length := packF_len _ l

set_option maxHeartbeats 4000000 in
set_option maxRecDepth 100000 in
theorem rows_any (W H d : Nat) (pk : Bool) (v : Value) (px : List Px) (w : World) (hp : PRow w v px) (hW : 1 ≤ W) (hW2 : W ≤ 256) (hH : H ≤ 256) (hpl : px.length = W * H) (hd : d = 8 ∨ d = 16) (hv : ∀ p ∈ px, valP p = true) :
    Calls Try.prog 57 #[.agg #[.int .i64 (W : Int), .int .i64 (H : Int), v], .int .i64 d, .bool pk] w fun e w' => ∃ v', e = .returned v' ∧ BRow w' w.heap.size 5 v' (rowsB d pk W px H) ∧ Below w.heap.size w w' := by
  obtain ⟨x, c, rfl, hlc, hcm, -⟩ := id hp
  unfold maxLen at hcm
  have HV := Lib.hid hv
  have HD := Lib.hid hd
  have HPL := Lib.hid hpl
  have hba := (Below.refl w.heap.size w).alloc (Nat.le_refl _) (.cells #[.int .i64 (W : Int), .int .i64 (H : Int), .slice x px.length c] 34)
  have HP1 := Lib.hid (hp.below hba)
  have HK1 := Lib.hid (Blk.new w 34 #[.int .i64 (W : Int), .int .i64 (H : Int), .slice x px.length c])
  have HB1 := Lib.hid hba
  clear hp hba hv hd hpl
  go_enter Try.func57, Try.ntmps57
  go_upto_region 1 with fail
  generalize w.alloc (.cells #[.int .i64 (W : Int), .int .i64 (H : Int), .slice x px.length c] 34) = wz at *
  generalize hB : w.heap.size = B at *
  have HBB := Lib.hid hB
  clear hB
  have y1 : wz.cell? ⟨B, 1, none⟩ = some (.int .i64 (H : Int)) := HK1.out.cell 1
  go_wp2_with fail
  clear y1
  generalize hB1 : wz.heap.size = B1 at *
  have HBN := Lib.hid hB1
  have hBB1 : B < B1 := by rw [← hB1]; exact HK1.out.lt
  clear hB1
  have HO0 : Hid (BRow wz B1 5 (.slice none 0 0) (rowsB d pk W px 0)) := ⟨rfl, .inl ⟨rfl, rfl⟩⟩
  go_loopw [7, 14] (fun vo vy wr => ∃ y : Nat, vy = .int .i64 y ∧ y ≤ H ∧ BRow wr B1 5 vo (rowsB d pk W px y) ∧ (rowsB d pk W px y).length ≤ 4096 * y ∧ Hid (Below B1 wz wr) ∧ B1 ≤ wr.heap.size) (fun _ vy _ => H - (intOf vy).toNat)
  case atStart => exact ⟨0, rfl, Nat.zero_le _, HO0.out, by simp [rowsB], Below.refl _ _, by rw [HBN.out]; exact Nat.le_refl _⟩
  case round =>
    obtain ⟨y, rfl, hy, hrow, hol, hbz, hszr⟩ := hrel
    obtain ⟨out, hout⟩ : ∃ out, rowsB d pk W px y = out := ⟨_, rfl⟩
    have HRS : Hid (rowsB d pk W px (y + 1) = out ++ (if pk then packP (rowB d W px y) else rowB d W px y)) := by show _ = _; rw [← hout]; rfl
    rw [hout] at hrow hol
    have HOUT := Lib.hid hout
    clear hout
    obtain ⟨xo, co, rfl⟩ := brow_shape hrow
    by_cases hlt : y < H
    · have dlt : decide ((y : Int) < (H : Int)) = true := by simp; omega
      have hHK : Blk wr B 34 #[.int .i64 (W : Int), .int .i64 (H : Int), .slice x px.length c] := (hbz.out.block _ hBB1).trans HK1.out
      have y0 : wr.cell? ⟨B, 0, none⟩ = some (.int .i64 (W : Int)) := hHK.cell 0
      have y2 : wr.cell? ⟨B, 2, none⟩ = some (.slice x px.length c) := hHK.cell 2
      have hyW : (y + 1) * W ≤ px.length := by rw [HPL.out, Nat.mul_comm W H]; exact Nat.mul_le_mul_right _ (by omega)
      obtain ⟨i0, hi0⟩ : ∃ i0, i0 = y * W := ⟨_, rfl⟩
      obtain ⟨i1, hi1⟩ : ∃ i1, i1 = (y + 1) * W := ⟨_, rfl⟩
      have hi01 : i1 = i0 + W := by rw [hi0, hi1, Nat.add_mul]; omega
      have m0 : (y : Int) * (W : Int) = (i0 : Int) := by rw [hi0]; simp
      have m1 : ((y : Int) + 1) * (W : Int) = (i1 : Int) := by rw [hi1]; simp
      have hi1p : i1 ≤ px.length := by rw [hi1]; exact hyW
      have hpl2 : px.length ≤ 65536 := by rw [HPL.out]; exact Nat.mul_le_mul hW2 hH
      have HRB : Hid (rowB d W px y = ((px.drop i0).take W).flatMap (pxT d)) := by show _ = _; rw [hi0]; rfl
      have HI1 := Lib.hid hi01
      have hle01 : i0 ≤ i1 := by omega
      have hi1c : i1 ≤ c := by omega
      clear hHK hyW hi0 hi1 hi01
      go_wp2_with (refine wpList_slice_lh (o := ⟨some 28, _, _, _, _, _⟩) rfl rfl und_pix size_pix rfl rfl rfl hle01 hi1c ?_)
      intro x2 hx2
      have hsub := (HP1.out.below (by rw [HBN.out]; exact hbz.out)).sub (i := i0) (k := i1) (by have := HI1.out; omega) hi1p hx2.out
      have hw1 : i1 - i0 = W := by have := HI1.out; omega
      rw [hw1] at hsub ⊢
      generalize wr = w3 at *
      obtain ⟨rp, hrp⟩ : ∃ rp, rp = (px.drop i0).take W := ⟨_, rfl⟩
      rw [← hrp] at hsub
      have hrl : rp.length = W := by rw [hrp, List.length_take, List.length_drop]; have := HI1.out; omega
      have HRV : Hid (∀ p ∈ rp, valP p = true) := fun p hp => HV.out p (by rw [hrp] at hp; exact List.mem_of_mem_drop (List.mem_of_mem_take hp))
      have HRP : Hid (rowB d W px y = rp.flatMap (pxT d)) := by show _ = _; rw [HRB.out, hrp]
      obtain ⟨c3, hc3⟩ : ∃ c3, c - i0 = c3 := ⟨_, rfl⟩
      rw [hc3] at hsub ⊢
      have HSUB := Lib.hid hsub
      have hc3m : c3 ≤ 9223372036854775807 := by omega
      have hWc : W ≤ c3 := by obtain ⟨_, _, hvv, h1, _⟩ := hsub; cases hvv; omega
      have HR0 : Hid (BRow w3 w3.heap.size 5 (.slice none 0 0) ((rp.take 0).flatMap (pxT d))) := ⟨rfl, .inl ⟨rfl, rfl⟩⟩
      clear hsub hrp hc3 hx2 hw1 y0 y2 m0 m1 HRB HI1
      go_wp2_with fail
      generalize hB2 : w3.heap.size = B2 at *
      have HB2 := Lib.hid hB2
      have HRL := Lib.hid hrl
      clear hB2 hrl
      go_loopw [9, 30] (fun vr vk wq => ∃ k : Nat, vk = .int .i64 k ∧ k ≤ W ∧ BRow wq B2 5 vr ((rp.take k).flatMap (pxT d)) ∧ Hid (Below B2 w3 wq) ∧ B2 ≤ wq.heap.size) (fun _ vk _ => W - (intOf vk).toNat)
      case atStart => exact ⟨0, rfl, Nat.zero_le _, HR0.out, Below.refl _ _, by rw [HB2.out]; exact Nat.le_refl _⟩
      case round =>
        obtain ⟨k, rfl, hk, hrr, hbr, hsr⟩ := hrel
        obtain ⟨acc, hacc⟩ : ∃ acc, acc = (rp.take k).flatMap (pxT d) := ⟨_, rfl⟩
        have hal : acc.length ≤ 2048 := by
          rw [hacc]
          have h1 := flat_len d (rp.take k)
          have h2 : (rp.take k).length ≤ k := by rw [List.length_take]; omega
          omega
        rw [← hacc] at hrr
        have HACC := Lib.hid hacc
        clear hacc
        obtain ⟨x8, c8, rfl⟩ := brow_shape hrr
        by_cases hkt : k < W
        · have dlk : decide ((k : Int) < (W : Int)) = true := by simp; omega
          have hkr : k < rp.length := by rw [HRL.out]; exact hkt
          have hpw : PRow wr (.slice x2 W c3) rp := HSUB.out.below (by rw [HB2.out]; exact hbr.out)
          obtain ⟨x', c', hv, -, -, -, hcl⟩ := hpw
          injection hv with e1 e2 e3
          subst e1 e3
          obtain ⟨b, off, rfl, hc⟩ := hcl (by rintro rfl; simp at hkr)
          obtain ⟨q1, q2, q3, q4⟩ := hc k hkr
          clear hcl hc e2
          have HTK : Hid ((rp.take (k + 1)).flatMap (pxT d) = (rp.take k).flatMap (pxT d) ++ pxT d rp[k]) := by
            show _ = _
            rw [List.take_succ_eq_append_getElem hkr, List.flatMap_append]; simp
          have hvp := HRV.out rp[k] (List.getElem_mem hkr)
          obtain ⟨p, hp⟩ : ∃ p, rp[k] = p := ⟨_, rfl⟩
          rw [hp] at q1 q2 q3 q4 HTK hvp
          clear hp hkr
          have HAP := Lib.hid (fun w v h1 h2 => tappendPixel_any v acc p d B2 w h1 h2 (by omega) HD.out hvp)
          obtain ⟨pa, pb, pc, pq⟩ := p
          unfold pxC at HAP
          simp only at q1 q2 q3 q4 HAP
          have HPX := Lib.hid (Blk.new wr 46 #[.int .i64 pa, .int .i64 pb, .int .i64 pc, .int .i64 pq])
          have HRW : Hid (BRow (wr.alloc (.cells #[.int .i64 pa, .int .i64 pb, .int .i64 pc, .int .i64 pq] 46)) B2 5 (.slice x8 acc.length c8) acc) := World.ownsRow.alloc hrr _
          have HBA := Lib.hid (hbr.out.alloc hsr (.cells #[.int .i64 pa, .int .i64 pb, .int .i64 pc, .int .i64 pq] 46))
          have HSA : Hid (B2 ≤ (wr.alloc (.cells #[.int .i64 pa, .int .i64 pb, .int .i64 pc, .int .i64 pq] 46)).heap.size) := by show _ ≤ _; simp; omega
          clear hvp hbr hrr hsr
          go_upto_region 9 with fail
          clear q1 q2 q3 q4
          generalize wr.alloc (.cells #[.int .i64 pa, .int .i64 pb, .int .i64 pc, .int .i64 pq] 46) = wk at *
          generalize wr.heap.size = PB at *
          have c0 : wk.cell? ⟨PB, 0, none⟩ = some (.int .i64 pa) := HPX.out.cell 0
          have c1 : wk.cell? ⟨PB, 1, none⟩ = some (.int .i64 pb) := HPX.out.cell 1
          have c2 : wk.cell? ⟨PB, 2, none⟩ = some (.int .i64 pc) := HPX.out.cell 2
          have c4 : wk.cell? ⟨PB, 3, none⟩ = some (.int .i64 pq) := HPX.out.cell 3
          go_wp2_with fail
          refine (HAP.out _ _ HRW.out HSA.out).mono ?_
          rintro e w5 ⟨v5, rfl, hr5, hb5⟩
          have HR5 : Hid (BRow w5 B2 5 v5 ((rp.take (k + 1)).flatMap (pxT d))) := by
            show BRow _ _ _ _ _
            rw [HTK.out, ← HACC.out]; exact hr5
          have HB5 : Hid (Below B2 w3 w5) := HBA.out.trans hb5
          have HS5 : Hid (B2 ≤ w5.heap.size) := Nat.le_trans HSA.out hb5.size
          clear c0 c1 c2 c4 hr5 hb5
          go_wp2_with fail
          go_roundw
          case rel => exact ⟨k + 1, by go_num, by omega, HR5.out, HB5.out, HS5.out⟩
          case measure => simp [intOf]; omega
        · have dlk : decide ((k : Int) < (W : Int)) = false := by simp; omega
          have hra : acc = rowB d W px y := by rw [HACC.out, HRP.out, List.take_of_length_le (by rw [HRL.out]; omega)]
          have hrne : acc ≠ [] := by
            have h1 := flat_len d rp
            rw [HRL.out] at h1
            intro h
            rw [hra, HRP.out] at h
            rw [h] at h1
            simp at h1
            omega
          have hlow : BRow wr B1 5 (.slice xo out.length co) out := (Fr.of_below (B := 0) (show Below w3.heap.size w3 wr by rw [HB2.out]; exact hbr.out) []).owns hrow (by simp)
          have hbz2 : Hid (Below B1 wz wr) := hbz.out.trans (hbr.out.mono (by have := HB2.out; omega))
          have hszr2 : B1 ≤ wr.heap.size := by have := hbr.out.size; have := HB2.out; omega
          have HRA := Lib.hid hra
          have HNE := Lib.hid hrne
          clear hra hrne hrow hbz hszr
          cases pk with
          | true =>
            have hst := run_str_of Try.underlying54 Try.underlying5 Try.underlying9 hrr
            have HPB := Lib.hid (packBits_any ⟨acc.toArray⟩ wr (by show acc.length ≤ _; omega))
            go_wp2_with fail
            refine HPB.out.mono ?_
            rintro e w5 ⟨rfl, hb5⟩
            have hlow5 : BRow w5 B1 5 (.slice xo out.length co) out := (Fr.of_below (B := 0) hb5 []).owns hlow (by simp)
            have hbz5 : Below B1 wz w5 := hbz2.out.trans (hb5.mono hszr2)
            have hsz5 : B1 ≤ w5.heap.size := Nat.le_trans hszr2 hb5.size
            have hpl := packP_len acc
            obtain ⟨pb, hpb⟩ : ∃ pb : ByteArray, pb = ⟨(packP acc).toArray⟩ := ⟨_, rfl⟩
            have hpbs : pb.size ≤ 4096 := by rw [hpb, ba_len]; omega
            have HPB2 : Hid (pb.data.toList = packP acc) := by show _ = _; rw [hpb]
            rw [← hpb]
            clear hpb hpl hb5 hlow hbz2 hst
            go_wp2_with (at_builtin; refine wpList_app_str el_u8 Try.underlying9 hlow5 hsz5 rfl rfl rfl rfl (by omega) ?_)
            intro v6 w6 hr6 hg6
            obtain ⟨hb6, hs6⟩ := below_app' hbz5 hsz5 hlow5 hg6
            have HR6 : Hid (BRow w6 B1 5 v6 (rowsB d true W px (y + 1))) := by
              show BRow _ _ _ _ _
              rw [HRS.out, if_pos trivial, ← HRA.out, ← HPB2.out]; exact hr6
            have HL6 : Hid ((rowsB d true W px (y + 1)).length ≤ 4096 * (y + 1)) := by
              show _ ≤ _
              rw [HRS.out, if_pos trivial, ← HRA.out, List.length_append]
              have := packP_len acc
              omega
            have HB6 := Lib.hid hb6
            clear hr6 hg6 hlow5 hbz5 hb6
            go_wp2_with fail
            go_roundw
            case rel => exact ⟨y + 1, by go_num, by omega, HR6.out, HL6.out, HB6.out, hs6⟩
            case measure => simp [intOf]; omega
          | false =>
            go_wp2_with (at_builtin; refine wpList_app_row el_u8 hlow hszr2 rfl rfl rfl hrr HNE.out rfl (by omega) ?_)
            intro v6 w6 hr6 hb6
            have HR6 : Hid (BRow w6 B1 5 v6 (rowsB d false W px (y + 1))) := by
              show BRow _ _ _ _ _
              rw [HRS.out, if_neg (by decide), ← HRA.out]; exact hr6
            have HL6 : Hid ((rowsB d false W px (y + 1)).length ≤ 4096 * (y + 1)) := by
              show _ ≤ _
              rw [HRS.out, if_neg (by decide), ← HRA.out, List.length_append]
              omega
            have HB6 : Hid (Below B1 wz w6) := hbz2.out.trans hb6
            have hs6 : B1 ≤ w6.heap.size := Nat.le_trans hszr2 hb6.size
            clear hr6 hb6 hlow hbz2
            go_wp2_with fail
            go_roundw
            case rel => exact ⟨y + 1, by go_num, by omega, HR6.out, HL6.out, HB6.out, hs6⟩
            case measure => simp [intOf]; omega
    · have dlt : decide ((y : Int) < (H : Int)) = false := by simp; omega
      have hye : y = H := by omega
      have HYE := Lib.hid hye
      clear hye
      go_wp2_with fail
      go_ret
      exact ⟨_, rfl, by rw [HBB.out, ← HYE.out, HOUT.out]; exact brow_weaken hrow (by omega), by rw [HBB.out]; exact HB1.out.trans (hbz.out.mono (by omega))⟩
end Go.Proofs.Ytakileiomgaahaa
