/-
  The program of tiff: Encode.
-/
import Derived.Test.YtakileiomgaahaaTi5
import Derived.Test.YtakileiomgaahaaM6
import Derived.Lib.SlBytesConst
namespace Go.Proofs.Ytakileiomgaahaa
open Go.RowKit

/-- 'append(out, row...)' where out is full and row is old memory. -/
theorem run_app_full_cells {P : Program} {w : World} {base : Nat} {t ty e : TypeId} (hE : Elem P t e (.int .u8 0) 1 1) {v : Value} {l : List UInt8} (hf : Full w v l) {a : Addr} {r : List UInt8} {c : Nat} (hr : ∀ j u, (bcells r)[j]? = some u → w.cell? (a.add j) = some u) (h1 : 1 ≤ r.length) (hlen : l.length + r.length ≤ 140737488355328) (hbase : base ≤ w.heap.size) :
    ∃ v' w', (Builtin.append_ #[t, t] ty #[v, .slice (some a) r.length c]).run P w = .ok v' w' ∧ BRow w' base e v' (l ++ r) ∧ Below base w w' := by
  obtain ⟨g, rfl, hc⟩ := hf
  obtain ⟨ht, ⟨i, hi, hz, hsz, hby⟩, _, _⟩ := hE
  have hrun := run_append_grow (P := P) (w := w) t ty e i (.int .u8 0) ht hi hz ⟨g, 0, none⟩ l.length l.length (bcells l) (by rw [hsz, bcells_length]; omega)
    (fun j v hj => by
      have hjl : j < l.length := by have := (List.getElem?_eq_some_iff.1 hj).1; rwa [bcells_length] at this
      rw [bcells_get l j hjl] at hj
      cases hj
      rw [Addr.add_lit]
      simpa using hc j hjl) a r.length c (bcells r) (by rw [hsz, bcells_length]; omega) hr (by omega) (by omega) (by rw [hby]; exact growslice_fits (by omega) (by omega))
  refine ⟨_, _, hrun, ?_, (Below.refl base w).grown (show w.grownBy _ none from ⟨rfl, rfl, rfl, by simp, fun k hk _ => Below.heap_alloc w.drew _ k hk⟩) hbase (fun k hk => by cases hk)⟩
  have hge := grownCap_ge w (l.length + r.length) l.length e
  have hcm : grownCap w (l.length + r.length) l.length e ≤ maxLen := grownCap_le_maxLen w (l.length + r.length) l.length e (by unfold maxLen; omega)
  unfold BRow
  rw [List.length_append]
  refine ⟨by rw [bcells_length, List.length_append]; omega, .inr ⟨w.heap.size, _, _, rfl, hbase, heap_alloc_new w.drew _, hge, hcm, ?_, ?_⟩⟩
  · have hz1 : (Value.int IntKind.u8 0).cells.size = 1 := rfl
    simp only [Array.size_append, List.size_toArray, size_zeroCells, hz1, bcells_length]
    omega
  · simp only [Array.toList_append, List.append_assoc]
    rw [← List.append_assoc, ← bcells_append]
    have hll : (l.length + r.length) * 1 = (bcells (l ++ r)).length := by rw [bcells_length, List.length_append]; omega
    rw [hll]
    exact List.take_left
theorem wpList_app_full {P : Program} {w : World} {ops : Array Oper} {rest : List Oper} {o : Oper} {a : Act} {Q : Exit → Act → World → Prop} {s x : Operand} {t e : TypeId}
    (hE : Elem P t e (.int .u8 0) 1 1) {base : Nat} {v : Value} {l : List UInt8} (hf : Full w v l) (hbase : base ≤ w.heap.size)
    (hgd : o.guard = none) (ho : o.op = .call { callee := .builtin .append, args := #[s, x], argTypes := #[t, t] }) (hs : a.eval s = v)
    {ad : Addr} {r : List UInt8} {n c : Nat} (hn : n = r.length) (hx : a.eval x = .slice (some ad) n c) (hr : ∀ j u, (bcells r)[j]? = some u → w.cell? (ad.add j) = some u) (h1 : 1 ≤ r.length) (hlen : l.length + r.length ≤ 140737488355328)
    (h : ∀ v' w', BRow w' base e v' (l ++ r) → Below base w w' → wpList P ops Q rest (a.put o.dst v') w') : wpList P ops Q (o :: rest) a w := by
  subst hn
  refine wpList_plain hgd fun K hK => ?_
  obtain ⟨v', w', hrun, h2, h3⟩ := run_app_full_cells (ty := o.type) hE hf hr h1 hlen hbase
  unfold Oper.wp execOp
  simp only [ho, resolve, invoke, builtin, Sem.run_bind, Sem.run_pure, Result.andThen_ok, List.map_toArray, List.map_cons, List.map_nil, hs, hx]
  rw [hrun]
  exact hK _ _ (h v' w' h2 h3)

theorem rowsB_len (d : Nat) (pk : Bool) (W : Nat) (px : List Px) (y : Nat) (hW : W ≤ 256) : (rowsB d pk W px y).length ≤ 4096 * y := by
  induction y with
  | zero => simp [rowsB]
  | succ y ih =>
    rw [rowsB, List.length_append]
    have h1 := flat_len d ((px.drop (y * W)).take W)
    have h2 : ((px.drop (y * W)).take W).length ≤ W := by rw [List.length_take]; omega
    have h3 := packP_len (rowB d W px y)
    have h4 : (rowB d W px y).length ≤ 8 * ((px.drop (y * W)).take W).length := h1.1
    split <;> omega
theorem packP_ne {l : List UInt8} (h : l ≠ []) : packP l ≠ [] := by
  by_cases h2 : 2 ≤ runP l
  · rw [packP_run h h2]; simp
  · rw [packP_lit h h2]; simp
theorem rowsB_ne (d : Nat) (pk : Bool) (W H : Nat) (px : List Px) (hW : 1 ≤ W) (hH : 1 ≤ H) (hpl : px.length = W * H) : rowsB d pk W px H ≠ [] := by
  obtain ⟨y, rfl⟩ : ∃ y, H = y + 1 := ⟨H - 1, by omega⟩
  have h1 := flat_len d ((px.drop (y * W)).take W)
  have h2 : ((px.drop (y * W)).take W).length = W := by
    rw [List.length_take, List.length_drop, hpl, Nat.mul_comm W (y + 1), Nat.add_mul]; omega
  have hr : rowB d W px y ≠ [] := by
    intro h
    unfold rowB at h
    rw [h, h2] at h1
    simp at h1; omega
  rw [rowsB]
  intro h
  have h3 := List.append_eq_nil_iff.1 h
  cases pk with
  | true => exact packP_ne hr h3.2
  | false => exact hr h3.2
theorem blk_low {w w' : World} {B3 k : Nat} {t : TypeId} {cs : Array Value} (h : Blk w k t cs) (hb : Below B3 w w') (hk : k < B3) : Blk w' k t cs := (hb.block _ hk).trans h
def litR (d : Nat) : Nat → List UInt8
  | 0 => []
  | k + 1 => litR d k ++ litB d 2
theorem litR_len (d k : Nat) : (litR d k).length = 2 * k := by
  induction k with
  | zero => rfl
  | succ k ih => rw [litR, List.length_append, ih, litB_len]; omega
def txtT (ms : List Mt) : List UInt8 := if ms = [] then [] else textP ms ++ [0]
def tagsT (ms : List Mt) : Nat := if ms = [] then 10 else 11
def compT (pk : Bool) : Nat := if pk then 32773 else 1
/-- The bytes of a file. -/
def fileT (W H d : Nat) (pk : Bool) (ms : List Mt) (px : List Px) : List UInt8 :=
  [73, 73] ++ [42, 0, 8, 0, 0, 0, UInt8.ofNat (tagsT ms), 0] ++ tagB 256 4 1 W ++ tagB 257 4 1 H ++ tagB 258 3 4 (14 + 12 * tagsT ms) ++ tagB 259 3 1 (compT pk) ++ tagB 262 3 1 2
    ++ (if ms = [] then [] else tagB 270 2 (txtT ms).length (22 + 12 * tagsT ms)) ++ tagB 273 4 1 (22 + 12 * tagsT ms + (txtT ms).length) ++ tagB 277 3 1 4 ++ tagB 278 4 1 H ++ tagB 279 4 1 (rowsB d pk W px H).length ++ tagB 338 3 1 2
    ++ litB 0 4 ++ litB d 2 ++ litB d 2 ++ litB d 2 ++ litB d 2 ++ txtT ms ++ rowsB d pk W px H
/-- The file of an image, or the error. -/
def encT (W H : Int) (px : List Px) (d : Int) (pk : Bool) (ms : List Mt) : Except Nat (List UInt8) :=
  if rchk W H px ≠ 0 then .error (rchk W H px)
  else if W = 0 then .error 15
  else if d ≠ 8 ∧ d ≠ 16 then .error 2
  else if chkP ms ≠ 0 then .error (chkP ms)
  else if 1048576 < (fileT W.toNat H.toNat d.toNat pk ms px).length then .error 3
  else .ok (fileT W.toNat H.toNat d.toNat pk ms px)
def EncOkT (r : Except Nat (List UInt8)) (e : Ending) : Prop :=
  match r with
  | .error k => e = .returned (.tuple #[.string ⟨#[]⟩, .int .i64 k])
  | .ok l => e = .returned (.tuple #[.string ⟨l.toArray⟩, .int .i64 0])
theorem trchk_zero {W H : Int} {px : List Px} (h : rchk W H px = 0) : ∃ w h : Nat, W = (w : Int) ∧ H = (h : Int) ∧ w ≤ 256 ∧ h ≤ 256 ∧ px.length = w * h ∧ (∀ p ∈ px, valP p = true) ∧ (w = 0 ↔ h = 0) := by
  unfold rchk at h
  split at h
  · cases h
  · rename_i h1
    split at h
    · rename_i h2
      split at h
      · rename_i h3
        refine ⟨W.toNat, H.toNat, by omega, by omega, by omega, by omega, ?_, List.all_eq_true.1 h3, by have := h2.1; omega⟩
        have e : (px.length : Int) = ((W.toNat * H.toNat : Nat) : Int) := by
          rw [h2.2, Int.natCast_mul]
          congr 1 <;> omega
        omega
      · cases h
    · cases h

set_option maxHeartbeats 8000000 in
set_option maxRecDepth 100000 in
theorem tencode_any (W H d : Int) (pk : Bool) (v mv : Value) (px : List Px) (ms : List Mt) (w : World) (hp : PRow w v px) (hm : MRow w mv ms) :
    Calls Try.prog 24 #[.agg (imgI W H v), .int .i64 d, .bool pk, mv] w fun e w' => EncOkT (encT W H px d pk ms) e ∧ Below w.heap.size w w' := by
  have HE : Hid (encT W H px d pk ms = if rchk W H px ≠ 0 then .error (rchk W H px) else if W = 0 then .error 15 else if d ≠ 8 ∧ d ≠ 16 then .error 2 else if chkP ms ≠ 0 then .error (chkP ms) else if 1048576 < (fileT W.toNat H.toNat d.toNat pk ms px).length then .error 3 else .ok (fileT W.toNat H.toNat d.toNat pk ms px)) := rfl
  obtain ⟨x, c, rfl, -, hcp, -⟩ := id hp
  obtain ⟨xm, cm, rfl, -, hcm, -⟩ := id hm
  unfold maxLen at hcp hcm
  have h0 := Blk.new w 34 (imgI W H (.slice x px.length c))
  have hbl := (Below.refl w.heap.size w).alloc (Nat.le_refl _) (.cells (imgI W H (.slice x px.length c)) 34)
  have HPZ := Lib.hid (hp.below hbl)
  have HMZ := Lib.hid (hm.below hbl)
  have HCI := Lib.hid (fun w h => pcheckI_any W H (.slice x px.length c) px w h)
  have HPR := Lib.hid (fun w h => print_any (.slice xm ms.length cm) ms w h)
  have HRZ := Lib.hid (fun h => trchk_zero (W := W) (H := H) (px := px) h)
  clear hp hm
  unfold imgI at *
  go_enter Try.func24, Try.ntmps24
  go_upto_region 1 with fail
  generalize w.alloc (.cells #[.int .i64 W, .int .i64 H, .slice x px.length c] 34) = wz at *
  have HH0 := Lib.hid h0
  have HBL0 := Lib.hid hbl
  clear h0 hbl
  generalize hB : w.heap.size = B at *
  have HB := Lib.hid hB
  clear hB
  have y0 : wz.cell? ⟨B, 0, none⟩ = some (.int .i64 W) := HH0.out.cell 0
  have y1 : wz.cell? ⟨B, 1, none⟩ = some (.int .i64 H) := HH0.out.cell 1
  have y2 : wz.cell? ⟨B, 2, none⟩ = some (.slice x px.length c) := HH0.out.cell 2
  go_wp2_with fail
  refine (HCI.out _ HPZ.out).mono ?_
  rintro e w1 ⟨rfl, hb1⟩
  have HBL : Hid (Below B w w1) := HBL0.out.trans (hb1.mono (by have := HH0.out.lt; omega))
  have HH1 : Hid (Blk w1 B 34 #[.int .i64 W, .int .i64 H, .slice x px.length c]) := (hb1.block _ HH0.out.lt).trans HH0.out
  have HP1 := Lib.hid (HPZ.out.below hb1)
  have HM1 := Lib.hid (HMZ.out.below hb1)
  clear y0 y1 y2 hb1 HH0 HBL0 HPZ HMZ HCI
  obtain ⟨ck, hck⟩ : ∃ ck, rchk W H px = ck := ⟨_, rfl⟩
  rw [hck] at HE HRZ ⊢
  clear hck
  by_cases hc0 : ck = 0
  case neg =>
    have e0 : ((ck : Int) == 0) = false := by simp; omega
    have e1 : ((ck : Int) != 0) = true := by unfold bne; rw [e0]; rfl
    have HF : Hid (encT W H px d pk ms = .error ck) := by show _ = _; rw [HE.out, if_pos hc0]
    go_wp2_with fail
    refine bodyPost_ret (v := .tuple #[.string ⟨#[]⟩, .int .i64 ck]) (by simp [results, Try.f24, go_sem]) rfl ⟨?_, by rw [HB.out]; exact HBL.out⟩
    rw [HF.out]; rfl
  obtain ⟨W, H, rfl, rfl, hW, hH, hpl, hva, hwh⟩ := HRZ.out hc0
  have HVA := Lib.hid hva
  have HPL := Lib.hid hpl
  have hpl2 : px.length ≤ 65536 := by rw [hpl]; exact Nat.mul_le_mul hW hH
  have e1 : ((ck : Int) != 0) = false := by rw [hc0]; rfl
  have HE1 : Hid (encT W H px d pk ms = if (W : Int) = 0 then .error 15 else if d ≠ 8 ∧ d ≠ 16 then .error 2 else if chkP ms ≠ 0 then .error (chkP ms) else if 1048576 < (fileT W H d.toNat pk ms px).length then .error 3 else .ok (fileT W H d.toNat pk ms px)) := by show _ = _; rw [HE.out, if_neg (by simp [hc0])]; rfl
  have y0 : w1.cell? ⟨B, 0, none⟩ = some (.int .i64 (W : Int)) := HH1.out.cell 0
  clear hva hpl hc0 HE HRZ
  by_cases hW0 : W = 0
  case pos =>
    have e2 : ((W : Int) == 0) = true := by rw [hW0]; rfl
    have HF : Hid (encT W H px d pk ms = .error 15) := by show _ = _; rw [HE1.out, if_pos (by omega)]
    clear hW0
    go_wp2_with fail
    refine bodyPost_ret (v := .tuple #[.string ⟨#[]⟩, .int .i64 15]) (by simp [results, Try.f24, go_sem]) rfl ⟨?_, by rw [HB.out]; exact HBL.out⟩
    rw [HF.out]; rfl
  have e2 : ((W : Int) == 0) = false := by simp; omega
  by_cases hd8 : d = 8 ∨ d = 16
  case neg =>
    have e8 : (d == 8) = false := by rw [beq_eq_false_iff_ne]; intro h; exact hd8 (.inl h)
    have e16 : (d == 16) = false := by rw [beq_eq_false_iff_ne]; intro h; exact hd8 (.inr h)
    have b8 : (d != 8) = true := by unfold bne; rw [e8]; rfl
    have b16 : (d != 16) = true := by unfold bne; rw [e16]; rfl
    have HF : Hid (encT W H px d pk ms = .error 2) := by show _ = _; rw [HE1.out, if_neg (by omega), if_pos ⟨fun h => hd8 (.inl h), fun h => hd8 (.inr h)⟩]
    go_wp2_with fail
    refine bodyPost_ret (v := .tuple #[.string ⟨#[]⟩, .int .i64 2]) (by simp [results, Try.f24, go_sem]) rfl ⟨?_, by rw [HB.out]; exact HBL.out⟩
    rw [HF.out]; rfl
  obtain ⟨D, rfl⟩ : ∃ D : Nat, d = (D : Int) := ⟨d.toNat, by omega⟩
  have hD : D = 8 ∨ D = 16 := by omega
  have HE2 : Hid (encT W H px D pk ms = if chkP ms ≠ 0 then .error (chkP ms) else if 1048576 < (fileT W H D pk ms px).length then .error 3 else .ok (fileT W H D pk ms px)) := by
    show _ = _; rw [HE1.out, if_neg (by omega), if_neg (by omega)]; rfl
  have HPR1 := Lib.hid (HPR.out w1 HM1.out)
  have hW1 : 1 ≤ W := by omega
  have hH1 : 1 ≤ H := by omega
  clear hwh
  have bd : ∃ b, ((D : Int) != 8) = b ∧ (b = true → ((D : Int) != 16) = false) := by
    refine ⟨_, rfl, fun h => ?_⟩
    have h2 : D ≠ 8 := by rintro rfl; cases h
    have h3 : D = 16 := by omega
    rw [h3]; rfl
  obtain ⟨b8, hb8, hb16⟩ := bd
  have HB16 := Lib.hid hb16
  clear HE1 HPR hd8 hW0 hb16
  go_upto_region 6 with fail
  go_cut [33] from 20 (fun v33 wx => v33 = .bool false ∧ wx = w1)
  case first =>
    cases b8 with
    | true =>
      have hb16 := HB16.out rfl
      clear HB16
      go_wp2_with fail
      go_meet
      case rel => exact ⟨rfl, rfl⟩
    | false =>
      clear HB16
      go_wp2_with fail
      go_meet
      case rel => exact ⟨rfl, rfl⟩
  case rest =>
    obtain ⟨rfl, hwc⟩ := hcut
    have hwc2 := hwc.symm
    subst hwc2
    clear hwc HB16 hb8 e1 e2 y0
    go_wp2_with fail
    refine HPR1.out.mono ?_
    rintro e w2 ⟨rfl, hb2⟩
    have HBL2 : Hid (Below B w w2) := HBL.out.trans (hb2.mono (by have := HH1.out.lt; omega))
    have HH2 : Hid (Blk w2 B 34 #[.int .i64 (W : Int), .int .i64 (H : Int), .slice x px.length c]) := (hb2.block _ HH1.out.lt).trans HH1.out
    have HP2 := Lib.hid (HP1.out.below hb2)
    clear hb2 HBL HH1 HP1 HM1 HPR1
    obtain ⟨cm0, hcm0⟩ : ∃ ck, chkP ms = ck := ⟨_, rfl⟩
    have HPT : Hid (cm0 = 0 → prtP ms = textP ms ∧ (textP ms).length ≤ 4640) := by
      intro h
      obtain ⟨h16, hasc⟩ := (chkP_zero ms).1 (by rw [hcm0]; exact h)
      have := textP_len ms (fun m hm => asc_get ms hasc m hm)
      refine ⟨by unfold prtP; rw [if_pos (by rw [hcm0]; exact h)], by omega⟩
    rw [hcm0] at HE2 ⊢
    clear hcm0
    by_cases hc1 : cm0 = 0
    case neg =>
      have e0 : ((cm0 : Int) == 0) = false := by simp; omega
      have e1 : ((cm0 : Int) != 0) = true := by unfold bne; rw [e0]; rfl
      have HF : Hid (encT W H px D pk ms = .error cm0) := by show _ = _; rw [HE2.out, if_pos hc1]
      go_wp2_with fail
      refine bodyPost_ret (v := .tuple #[.string ⟨#[]⟩, .int .i64 cm0]) (by simp [results, Try.f24, go_sem]) rfl ⟨?_, by rw [HB.out]; exact HBL2.out⟩
      rw [HF.out]; rfl
    have e1 : ((cm0 : Int) != 0) = false := by rw [hc1]; rfl
    have HE3 : Hid (encT W H px D pk ms = if 1048576 < (fileT W H D pk ms px).length then .error 3 else .ok (fileT W H D pk ms px)) := by show _ = _; rw [HE2.out, if_neg (by simp [hc1])]
    obtain ⟨hpt1, hpt2⟩ := HPT.out hc1
    rw [hpt1]
    obtain ⟨T0, hT0⟩ : ∃ t : ByteArray, t = ⟨(textP ms).toArray⟩ := ⟨_, rfl⟩
    have hT0s : T0.size ≤ 4640 := by rw [hT0, ba_len]; exact hpt2
    have HT0 : Hid (T0.data.toList = textP ms) := by show _ = _; rw [hT0]
    rw [← hT0]
    clear hT0 hpt1 hpt2 hc1 HE2 HPT
    go_upto_if 44 with fail
    go_cut [11, 13] from 20 (fun v11 v13 wx => ∃ T : ByteArray, v11 = .string T ∧ v13 = .int .i64 (tagsT ms : Nat) ∧ Hid (T.data.toList = txtT ms) ∧ T.size ≤ 4641 ∧ wx = w2)
    case first =>
      by_cases hms : ms = []
      · have hml : ms.length = 0 := by rw [hms]; rfl
        have d0 : decide ((0 : Int) < (ms.length : Int)) = false := by simp; omega
        have HTX : Hid (T0.data.toList = txtT ms) := by show _ = _; rw [HT0.out, hms]; rfl
        have HTG : Hid (tagsT ms = 10) := by show _ = _; rw [hms]; rfl
        clear hms
        go_wp2_with fail
        go_meet
        case rel => exact ⟨T0, rfl, by rw [HTG.out]; rfl, HTX.out, by omega, rfl⟩
      · have hml : 0 < ms.length := List.length_pos_iff.2 hms
        have d0 : decide ((0 : Int) < (ms.length : Int)) = true := by simp; omega
        have HTX : Hid ((T0 ++ ⟨#[0]⟩ : ByteArray).data.toList = txtT ms) := by
          show _ = _
          unfold txtT
          rw [if_neg hms, ← HT0.out]
          simp [ByteArray.data_append]
        have HTS : Hid ((T0 ++ ⟨#[0]⟩ : ByteArray).size ≤ 4641) := by show _ ≤ _; rw [ByteArray.size_append]; show T0.size + 1 ≤ _; omega
        have HTG : Hid (tagsT ms = 11) := by show _ = _; unfold tagsT; rw [if_neg hms]
        clear hms
        go_wp2_with fail
        go_meet
        case rel => exact ⟨_, rfl, by rw [HTG.out]; rfl, HTX.out, HTS.out, rfl⟩
    case rest =>
      obtain ⟨T, rfl, rfl, HTX, hTs, hwc⟩ := hcut
      have hwc2 := hwc.symm
      subst hwc2
      clear hwc HT0 hT0s e1
      go_upto_if 49 with fail
      go_cut [14] from 20 (fun v14 wx => v14 = .int .i64 (compT pk : Nat) ∧ wx = w2)
      case first =>
        cases pk with
        | true =>
          go_wp2_with fail
          go_meet
          case rel => exact ⟨rfl, rfl⟩
        | false =>
          go_wp2_with fail
          go_meet
          case rel => exact ⟨rfl, rfl⟩
      case rest =>
        obtain ⟨rfl, hwc⟩ := hcut
        have hwc2 := hwc.symm
        subst hwc2
        clear hwc
        have y0 : w2.cell? ⟨B, 0, none⟩ = some (.int .i64 (W : Int)) := HH2.out.cell 0
        have y1 : w2.cell? ⟨B, 1, none⟩ = some (.int .i64 (H : Int)) := HH2.out.cell 1
        have y2 : w2.cell? ⟨B, 2, none⟩ = some (.slice x px.length c) := HH2.out.cell 2
        have HRO := Lib.hid (rows_any W H D pk _ px w2 HP2.out hW1 hW hH HPL.out hD HVA.out)
        have HRL : Hid ((rowsB D pk W px H).length ≤ 4096 * 256) := Nat.le_trans (rowsB_len D pk W px H hW) (Nat.mul_le_mul_left _ hH)
        go_wp2_with fail
        refine HRO.out.mono ?_
        rintro e w3 ⟨vd, rfl, hdat, hb3⟩
        have HBL3 : Hid (Below B w w3) := HBL2.out.trans (hb3.mono (by have := HH2.out.lt; omega))
        have HH3 : Hid (Blk w3 B 34 #[.int .i64 (W : Int), .int .i64 (H : Int), .slice x px.length c]) := (hb3.block _ HH2.out.lt).trans HH2.out
        obtain ⟨tg, htg⟩ : ∃ tg, tagsT ms = tg := ⟨_, rfl⟩
        have htg11 : tg ≤ 11 := by rw [← htg]; unfold tagsT; split <;> omega
        obtain ⟨cp, hcp⟩ : ∃ cp, compT pk = cp := ⟨_, rfl⟩
        have hcp2 : cp ≤ 32773 := by rw [← hcp]; unfold compT; split <;> omega
        obtain ⟨dat, hdt⟩ : ∃ dat, rowsB D pk W px H = dat := ⟨_, rfl⟩
        rw [hdt] at hdat HRL
        rw [htg, hcp]
        have HTG := Lib.hid htg
        have HCP := Lib.hid hcp
        have HDT := Lib.hid hdt
        have hdl : dat.length ≤ 1048576 := HRL.out
        obtain ⟨xd, cd, rfl⟩ := brow_shape hdat
        have HDAT := Lib.hid hdat
        generalize hB2 : w2.heap.size = B2 at *
        clear htg hcp hdt hdat hb3 HBL2 HH2 HP2 HRO HRL y0 y1 y2 hB2
        have hmod : (tg : Int) % 256 = (tg : Int) := by omega
        have HO0 : Hid (Full ((w3.alloc (.cells #[.int .u8 73, .int .u8 73] 5 (2, 3))).alloc (.cells #[.int .u8 42, .int .u8 0, .int .u8 8, .int .u8 0, .int .u8 0, .int .u8 0, .int .u8 (tg : Int), .int .u8 0] 5)) (.slice (some ⟨w3.heap.size, 0, none⟩) 2 2) [73, 73]) := by
          have h1 : Full (w3.alloc (.cells #[.int .u8 73, .int .u8 73] 5 (2, 3))) (.slice (some ⟨w3.heap.size, 0, none⟩) 2 2) [73, 73] := by
            refine ⟨w3.heap.size, rfl, fun j hj => ?_⟩
            have hb : (w3.alloc (.cells #[.int .u8 73, .int .u8 73] 5 (2, 3))).heap[w3.heap.size]? = some (.cells #[.int .u8 73, .int .u8 73] 5 (2, 3)) := heap_alloc_new w3 _
            have hj3 : j < 2 := hj
            have := cell_of_row (w3.alloc (.cells #[.int .u8 73, .int .u8 73] 5 (2, 3))) w3.heap.size j _ _ _ hb
            rw [this]
            match j, hj3 with
            | 0, _ => rfl
            | 1, _ => rfl
          exact h1.below ((Below.refl _ _).alloc (Nat.le_refl _) _)
        have HNB : Hid (Blk ((w3.alloc (.cells #[.int .u8 73, .int .u8 73] 5 (2, 3))).alloc (.cells #[.int .u8 42, .int .u8 0, .int .u8 8, .int .u8 0, .int .u8 0, .int .u8 0, .int .u8 (tg : Int), .int .u8 0] 5)) (w3.heap.size + 1) 5 #[.int .u8 42, .int .u8 0, .int .u8 8, .int .u8 0, .int .u8 0, .int .u8 0, .int .u8 (tg : Int), .int .u8 0]) := Blk.new_at (by simp) _ _
        have HNR : Hid (∀ j u, (bcells [42, 0, 8, 0, 0, 0, UInt8.ofNat tg, 0])[j]? = some u → ((w3.alloc (.cells #[.int .u8 73, .int .u8 73] 5 (2, 3))).alloc (.cells #[.int .u8 42, .int .u8 0, .int .u8 8, .int .u8 0, .int .u8 0, .int .u8 0, .int .u8 (tg : Int), .int .u8 0] 5)).cell? ((⟨w3.heap.size + 1, 0, none⟩ : Addr).add j) = some u) := by
          intro j u hu
          have e : bcells [42, 0, 8, 0, 0, 0, UInt8.ofNat tg, 0] = [.int .u8 42, .int .u8 0, .int .u8 8, .int .u8 0, .int .u8 0, .int .u8 0, .int .u8 (tg : Int), .int .u8 0] := by
            simp only [bcells, List.map_cons, List.map_nil]
            rw [bcell_ofNat tg (by omega)]; rfl
          rw [e] at hu
          rw [Addr.add_lit]
          have := HNB.out.cell j
          rw [show (⟨w3.heap.size + 1, 0 + j, none⟩ : Addr) = ⟨w3.heap.size + 1, j, none⟩ by simp, this]
          simpa using hu
        have HOB := Lib.hid (((Below.refl w3.heap.size w3).alloc (Nat.le_refl _) (.cells #[.int .u8 73, .int .u8 73] 5 (2, 3))).alloc (by simp) (.cells #[.int .u8 42, .int .u8 0, .int .u8 8, .int .u8 0, .int .u8 0, .int .u8 0, .int .u8 (tg : Int), .int .u8 0] 5))
        have hcv := Lib.run_convert_bytes_const (P := Try.prog) w3 54 5 #[.int .u8 73, .int .u8 73] 2 2 Try.underlying54 Try.underlying5
        change _ = Result.ok _ (w3.alloc (.cells #[.int .u8 73, .int .u8 73] 5 (2, 3))) at hcv
        obtain ⟨ba, hba⟩ : ∃ ba : Nat, ba = 14 + 12 * tg := ⟨_, rfl⟩
        have hba1 : (10 : Int) + (tg : Int) * 12 + 4 = (ba : Int) := by omega
        obtain ⟨ta, hta⟩ : ∃ ta : Nat, ta = ba + 8 := ⟨_, rfl⟩
        have hta1 : (ba : Int) + 8 = (ta : Int) := by omega
        obtain ⟨da, hda⟩ : ∃ da : Nat, da = ta + T.size := ⟨_, rfl⟩
        have hda1 : (ta : Int) + (T.size : Int) = (da : Int) := by omega
        have hbar : ba ≤ 200 := by omega
        have htar : ta ≤ 200 := by omega
        have hdar : da ≤ 5000 := by omega
        have HBA := Lib.hid hba
        have HTA := Lib.hid hta
        have HDA := Lib.hid hda
        have HNEd : Hid (dat ≠ []) := by show _ ≠ _; rw [← HDT.out]; exact rowsB_ne D pk W H px hW1 hH1 HPL.out
        clear hba hta hda
        go_upto_region 21 with fail
        go_wp2_with (at_builtin; refine wpList_app_full (base := w3.heap.size) (l := [73, 73]) (r := [42, 0, 8, 0, 0, 0, UInt8.ofNat tg, 0]) el_u8 HO0.out (by simp; omega) rfl rfl rfl rfl rfl HNR.out (by simp) (by simp) ?_)
        intro v4 w4 hr4 hb4
        generalize hB3 : w3.heap.size = B3 at *
        have HB3e := Lib.hid hB3
        have hBB3 : B < B3 := by rw [← hB3]; exact HH3.out.lt
        obtain ⟨l4, hl4⟩ : ∃ l, l = ([73, 73, 42, 0, 8, 0, 0, 0, UInt8.ofNat tg, 0] : List UInt8) := ⟨_, rfl⟩
        rw [← hl4] at hr4
        have HLT4 : Hid (l4.length ≤ 10) := by show _ ≤ _; rw [hl4]; simp
        have HX4 := Lib.hid hl4
        obtain ⟨xa4, ca4, hv4⟩ := brow_shape hr4
        have HO4 : Hid (BRow w4 B3 5 v4 l4) := hr4
        have HB4 : Hid (Below B3 w3 w4) := HOB.out.trans hb4
        have HS4 : Hid (B3 ≤ w4.heap.size) := by have h1 := HB4.out.size; show _ ≤ _; omega
        have HTAG := Lib.hid (fun x l id kind n v w h1 h2 h3 h4 h5 h6 h7 => appendTag_any x l id kind n v B3 w h1 h2 h3 h4 h5 h6 h7)
        have HNUM := Lib.hid (fun x l v n w h1 h2 h3 h4 h5 => appendNumber_any x l v n B3 w h1 h2 h3 h4 h5)
        clear hr4 hb4 hv4 hl4 hB3 HOB HO0 HNB HNR hcv hba1 hta1 hda1
        generalize v4 = x4 at *
        have yw : w4.cell? ⟨B, 0, none⟩ = some (.int .i64 (W : Int)) := (blk_low HH3.out HB4.out hBB3).cell 0
        go_wp2_with fail
        refine (HTAG.out x4 l4 256 4 1 W w4 HO4.out HS4.out (by have := HLT4.out; omega) (by omega) (by omega) (by omega) (by omega)).mono ?_
        rintro e w5 ⟨x5, rfl, h1, b1⟩
        obtain ⟨l5, hl5⟩ : ∃ l, l = l4 ++ tagB 256 4 1 W := ⟨_, rfl⟩
        rw [← hl5] at h1
        have HL5 : Hid (l5.length = l4.length + 12) := by show _ = _; rw [hl5, List.length_append, tagB_len]
        have HX5 := Lib.hid hl5
        have HO5 := Lib.hid h1
        have HB5 : Hid (Below B3 w3 w5) := HB4.out.trans b1
        have HS5 : Hid (B3 ≤ w5.heap.size) := Nat.le_trans HS4.out b1.size
        clear h1 b1 hl5 HO4 HS4 yw
        have HLT5 : Hid (l5.length ≤ 22) := by have h1 := HLT4.out; have h2 := HL5.out; show _ ≤ _; omega
        clear HL5 HLT4
        have yw : w5.cell? ⟨B, 1, none⟩ = some (.int .i64 (H : Int)) := (blk_low HH3.out HB5.out hBB3).cell 1
        go_wp2_with fail
        refine (HTAG.out x5 l5 257 4 1 H w5 HO5.out HS5.out (by have := HLT5.out; omega) (by omega) (by omega) (by omega) (by omega)).mono ?_
        rintro e w6 ⟨x6, rfl, h1, b1⟩
        obtain ⟨l6, hl6⟩ : ∃ l, l = l5 ++ tagB 257 4 1 H := ⟨_, rfl⟩
        rw [← hl6] at h1
        have HL6 : Hid (l6.length = l5.length + 12) := by show _ = _; rw [hl6, List.length_append, tagB_len]
        have HX6 := Lib.hid hl6
        have HO6 := Lib.hid h1
        have HB6 : Hid (Below B3 w3 w6) := HB5.out.trans b1
        have HS6 : Hid (B3 ≤ w6.heap.size) := Nat.le_trans HS5.out b1.size
        clear h1 b1 hl6 HO5 HS5 yw
        have HLT6 : Hid (l6.length ≤ 34) := by have h1 := HLT5.out; have h2 := HL6.out; show _ ≤ _; omega
        clear HL6 HLT5
        go_wp2_with fail
        refine (HTAG.out x6 l6 258 3 4 ba w6 HO6.out HS6.out (by have := HLT6.out; omega) (by omega) (by omega) (by omega) (by omega)).mono ?_
        rintro e w7 ⟨x7, rfl, h1, b1⟩
        obtain ⟨l7, hl7⟩ : ∃ l, l = l6 ++ tagB 258 3 4 ba := ⟨_, rfl⟩
        rw [← hl7] at h1
        have HL7 : Hid (l7.length = l6.length + 12) := by show _ = _; rw [hl7, List.length_append, tagB_len]
        have HX7 := Lib.hid hl7
        have HO7 := Lib.hid h1
        have HB7 : Hid (Below B3 w3 w7) := HB6.out.trans b1
        have HS7 : Hid (B3 ≤ w7.heap.size) := Nat.le_trans HS6.out b1.size
        clear h1 b1 hl7 HO6 HS6
        have HLT7 : Hid (l7.length ≤ 46) := by have h1 := HLT6.out; have h2 := HL7.out; show _ ≤ _; omega
        clear HL7 HLT6
        go_wp2_with fail
        refine (HTAG.out x7 l7 259 3 1 cp w7 HO7.out HS7.out (by have := HLT7.out; omega) (by omega) (by omega) (by omega) (by omega)).mono ?_
        rintro e w8 ⟨x8, rfl, h1, b1⟩
        obtain ⟨l8, hl8⟩ : ∃ l, l = l7 ++ tagB 259 3 1 cp := ⟨_, rfl⟩
        rw [← hl8] at h1
        have HL8 : Hid (l8.length = l7.length + 12) := by show _ = _; rw [hl8, List.length_append, tagB_len]
        have HX8 := Lib.hid hl8
        have HO8 := Lib.hid h1
        have HB8 : Hid (Below B3 w3 w8) := HB7.out.trans b1
        have HS8 : Hid (B3 ≤ w8.heap.size) := Nat.le_trans HS7.out b1.size
        clear h1 b1 hl8 HO7 HS7
        have HLT8 : Hid (l8.length ≤ 58) := by have h1 := HLT7.out; have h2 := HL8.out; show _ ≤ _; omega
        clear HL8 HLT7
        go_wp2_with fail
        refine (HTAG.out x8 l8 262 3 1 2 w8 HO8.out HS8.out (by have := HLT8.out; omega) (by omega) (by omega) (by omega) (by omega)).mono ?_
        rintro e w9 ⟨x9, rfl, h1, b1⟩
        obtain ⟨l9, hl9⟩ : ∃ l, l = l8 ++ tagB 262 3 1 2 := ⟨_, rfl⟩
        rw [← hl9] at h1
        have HL9 : Hid (l9.length = l8.length + 12) := by show _ = _; rw [hl9, List.length_append, tagB_len]
        have HX9 := Lib.hid hl9
        have HO9 := Lib.hid h1
        have HB9 : Hid (Below B3 w3 w9) := HB8.out.trans b1
        have HS9 : Hid (B3 ≤ w9.heap.size) := Nat.le_trans HS8.out b1.size
        clear h1 b1 hl9 HO8 HS8
        have HLT9 : Hid (l9.length ≤ 70) := by have h1 := HLT8.out; have h2 := HL9.out; show _ ≤ _; omega
        clear HL9 HLT8
        go_upto_if 88 with fail
        go_cut [19] from 20 (fun v19 wx => ∃ l : List UInt8, BRow wx B3 5 v19 l ∧ Hid (l = l9 ++ (if ms = [] then [] else tagB 270 2 T.size ta)) ∧ l.length ≤ 200 ∧ Hid (Below B3 w3 wx) ∧ B3 ≤ wx.heap.size)
        case first =>
          by_cases hms : ms = []
          · have hml : ms.length = 0 := by rw [hms]; rfl
            have d0 : decide ((0 : Int) < (ms.length : Int)) = false := by simp; omega
            have HQ : Hid (l9 = l9 ++ (if ms = [] then [] else tagB 270 2 T.size ta)) := by show _ = _; rw [if_pos hms, List.append_nil]
            clear hms
            go_wp2_with fail
            go_meet
            case rel => exact ⟨l9, HO9.out, HQ.out, by have := HLT9.out; omega, HB9.out, HS9.out⟩
          · have hml : 0 < ms.length := List.length_pos_iff.2 hms
            have d0 : decide ((0 : Int) < (ms.length : Int)) = true := by simp; omega
            have HQ : Hid (l9 ++ tagB 270 2 T.size ta = l9 ++ (if ms = [] then [] else tagB 270 2 T.size ta)) := by show _ = _; rw [if_neg hms]
            clear hms
            go_wp2_with fail
            refine (HTAG.out x9 l9 270 2 T.size ta w9 HO9.out HS9.out (by have := HLT9.out; omega) (by omega) (by omega) (by omega) (by omega)).mono ?_
            rintro e wN ⟨xN, rfl, h1, b1⟩
            have HON := Lib.hid h1
            have HBN : Hid (Below B3 w3 wN) := HB9.out.trans b1
            have HSN : Hid (B3 ≤ wN.heap.size) := Nat.le_trans HS9.out b1.size
            clear h1 b1
            go_wp2_with fail
            go_meet
            case rel => exact ⟨_, HON.out, HQ.out, by rw [List.length_append, tagB_len]; have := HLT9.out; omega, HBN.out, HSN.out⟩
        case rest =>
          obtain ⟨lM, hrM, HXM, hlM, HBM, hsM⟩ := hcut
          have HOM := Lib.hid hrM
          have HSM : Hid (B3 ≤ wc.heap.size) := hsM
          have HLTM : Hid (lM.length ≤ 200) := hlM
          clear hrM hsM hlM HO9 HS9 HLT9
          generalize u19 = xM at *
          generalize wc = wM at *
          go_wp2_with fail
          refine (HTAG.out xM lM 273 4 1 da wM HOM.out HSM.out (by have := HLTM.out; omega) (by omega) (by omega) (by omega) (by omega)).mono ?_
          rintro e wN0 ⟨xN0, rfl, h1, b1⟩
          obtain ⟨lN0, hlN0⟩ : ∃ l, l = lM ++ tagB 273 4 1 da := ⟨_, rfl⟩
          rw [← hlN0] at h1
          have HLN0 : Hid (lN0.length = lM.length + 12) := by show _ = _; rw [hlN0, List.length_append, tagB_len]
          have HXN0 := Lib.hid hlN0
          have HON0 := Lib.hid h1
          have HBN0 : Hid (Below B3 w3 wN0) := HBM.out.trans b1
          have HSN0 : Hid (B3 ≤ wN0.heap.size) := Nat.le_trans HSM.out b1.size
          clear h1 b1 hlN0 HOM HSM
          have HLTN0 : Hid (lN0.length ≤ 212) := by have h1 := HLTM.out; have h2 := HLN0.out; show _ ≤ _; omega
          clear HLN0 HLTM
          go_wp2_with fail
          refine (HTAG.out xN0 lN0 277 3 1 4 wN0 HON0.out HSN0.out (by have := HLTN0.out; omega) (by omega) (by omega) (by omega) (by omega)).mono ?_
          rintro e wN1 ⟨xN1, rfl, h1, b1⟩
          obtain ⟨lN1, hlN1⟩ : ∃ l, l = lN0 ++ tagB 277 3 1 4 := ⟨_, rfl⟩
          rw [← hlN1] at h1
          have HLN1 : Hid (lN1.length = lN0.length + 12) := by show _ = _; rw [hlN1, List.length_append, tagB_len]
          have HXN1 := Lib.hid hlN1
          have HON1 := Lib.hid h1
          have HBN1 : Hid (Below B3 w3 wN1) := HBN0.out.trans b1
          have HSN1 : Hid (B3 ≤ wN1.heap.size) := Nat.le_trans HSN0.out b1.size
          clear h1 b1 hlN1 HON0 HSN0
          have HLTN1 : Hid (lN1.length ≤ 224) := by have h1 := HLTN0.out; have h2 := HLN1.out; show _ ≤ _; omega
          clear HLN1 HLTN0
          have yw : wN1.cell? ⟨B, 1, none⟩ = some (.int .i64 (H : Int)) := (blk_low HH3.out HBN1.out hBB3).cell 1
          go_wp2_with fail
          refine (HTAG.out xN1 lN1 278 4 1 H wN1 HON1.out HSN1.out (by have := HLTN1.out; omega) (by omega) (by omega) (by omega) (by omega)).mono ?_
          rintro e wN2 ⟨xN2, rfl, h1, b1⟩
          obtain ⟨lN2, hlN2⟩ : ∃ l, l = lN1 ++ tagB 278 4 1 H := ⟨_, rfl⟩
          rw [← hlN2] at h1
          have HLN2 : Hid (lN2.length = lN1.length + 12) := by show _ = _; rw [hlN2, List.length_append, tagB_len]
          have HXN2 := Lib.hid hlN2
          have HON2 := Lib.hid h1
          have HBN2 : Hid (Below B3 w3 wN2) := HBN1.out.trans b1
          have HSN2 : Hid (B3 ≤ wN2.heap.size) := Nat.le_trans HSN1.out b1.size
          clear h1 b1 hlN2 HON1 HSN1 yw
          have HLTN2 : Hid (lN2.length ≤ 236) := by have h1 := HLTN1.out; have h2 := HLN2.out; show _ ≤ _; omega
          clear HLN2 HLTN1
          go_wp2_with fail
          refine (HTAG.out xN2 lN2 279 4 1 (dat.length) wN2 HON2.out HSN2.out (by have := HLTN2.out; omega) (by omega) (by omega) (by omega) (by omega)).mono ?_
          rintro e wN3 ⟨xN3, rfl, h1, b1⟩
          obtain ⟨lN3, hlN3⟩ : ∃ l, l = lN2 ++ tagB 279 4 1 (dat.length) := ⟨_, rfl⟩
          rw [← hlN3] at h1
          have HLN3 : Hid (lN3.length = lN2.length + 12) := by show _ = _; rw [hlN3, List.length_append, tagB_len]
          have HXN3 := Lib.hid hlN3
          have HON3 := Lib.hid h1
          have HBN3 : Hid (Below B3 w3 wN3) := HBN2.out.trans b1
          have HSN3 : Hid (B3 ≤ wN3.heap.size) := Nat.le_trans HSN2.out b1.size
          clear h1 b1 hlN3 HON2 HSN2
          have HLTN3 : Hid (lN3.length ≤ 248) := by have h1 := HLTN2.out; have h2 := HLN3.out; show _ ≤ _; omega
          clear HLN3 HLTN2
          go_wp2_with fail
          refine (HTAG.out xN3 lN3 338 3 1 2 wN3 HON3.out HSN3.out (by have := HLTN3.out; omega) (by omega) (by omega) (by omega) (by omega)).mono ?_
          rintro e wN4 ⟨xN4, rfl, h1, b1⟩
          obtain ⟨lN4, hlN4⟩ : ∃ l, l = lN3 ++ tagB 338 3 1 2 := ⟨_, rfl⟩
          rw [← hlN4] at h1
          have HLN4 : Hid (lN4.length = lN3.length + 12) := by show _ = _; rw [hlN4, List.length_append, tagB_len]
          have HXN4 := Lib.hid hlN4
          have HON4 := Lib.hid h1
          have HBN4 : Hid (Below B3 w3 wN4) := HBN3.out.trans b1
          have HSN4 : Hid (B3 ≤ wN4.heap.size) := Nat.le_trans HSN3.out b1.size
          clear h1 b1 hlN4 HON3 HSN3
          have HLTN4 : Hid (lN4.length ≤ 260) := by have h1 := HLTN3.out; have h2 := HLN4.out; show _ ≤ _; omega
          clear HLN4 HLTN3
          go_wp2_with fail
          refine (HNUM.out xN4 lN4 0 4 wN4 HON4.out HSN4.out (by have := HLTN4.out; omega) (by omega) (by omega)).mono ?_
          rintro e wP ⟨xP, rfl, h1, b1⟩
          obtain ⟨lP, hlP⟩ : ∃ l, l = lN4 ++ litB 0 4 := ⟨_, rfl⟩
          rw [← hlP] at h1
          have HLP : Hid (lP.length = lN4.length + 4) := by show _ = _; rw [hlP, List.length_append, litB_len]
          have HXP := Lib.hid hlP
          have HOP := Lib.hid h1
          have HBP : Hid (Below B3 w3 wP) := HBN4.out.trans b1
          have HSP : Hid (B3 ≤ wP.heap.size) := Nat.le_trans HSN4.out b1.size
          clear h1 b1 hlP HON4 HSN4
          have HLTP : Hid (lP.length ≤ 300) := by have h1 := HLTN4.out; have h2 := HLP.out; show _ ≤ _; omega
          clear HLP HLTN4
          have hDle : D ≤ 16 := by omega
          go_upto_region 36 with fail
          go_loopw [19, 111] (fun v19 vk wr => ∃ k : Nat, vk = .int .i64 k ∧ k ≤ 4 ∧ BRow wr B3 5 v19 (lP ++ litR D k) ∧ Hid (Below B3 w3 wr) ∧ B3 ≤ wr.heap.size) (fun _ vk _ => 4 - (intOf vk).toNat)
          case atStart => exact ⟨0, rfl, by decide, by simpa [litR] using HOP.out, HBP.out, HSP.out⟩
          case round =>
            obtain ⟨k, rfl, hk, hrow, hbw, hszr⟩ := hrel
            have hlen : (lP ++ litR D k).length ≤ 400 := by rw [List.length_append, litR_len]; have := HLTP.out; omega
            obtain ⟨acc, hacc⟩ : ∃ acc, acc = lP ++ litR D k := ⟨_, rfl⟩
            rw [← hacc] at hrow hlen
            have HACC := Lib.hid hacc
            clear hacc
            by_cases hlt : k < 4
            · have dlt : decide ((k : Int) < 4) = true := by simp; omega
              have HN1 := Lib.hid (fun x h => HNUM.out x acc D 2 wr h hszr (by omega) (by omega) (by omega))
              go_wp2_with fail
              refine (HN1.out _ hrow).mono ?_
              rintro e w8 ⟨x8, rfl, h1, b1⟩
              have HR8 : Hid (BRow w8 B3 5 x8 (lP ++ litR D (k + 1))) := by show BRow _ _ _ _ _; rw [litR, ← List.append_assoc, ← HACC.out]; exact h1
              have HB8 : Hid (Below B3 w3 w8) := hbw.out.trans b1
              have HS8 : Hid (B3 ≤ w8.heap.size) := Nat.le_trans hszr b1.size
              clear h1 b1 hrow hbw hszr
              go_wp2_with fail
              go_roundw
              case rel => exact ⟨k + 1, by go_num, by omega, HR8.out, HB8.out, HS8.out⟩
              case measure => simp [intOf]; omega
            · have dlt : decide ((k : Int) < 4) = false := by simp; omega
              have hke : k = 4 := by omega
              have HACC4 : Hid (acc = lP ++ litR D 4) := by show _ = _; rw [HACC.out, hke]
              have hdat : BRow wr B2 5 (.slice xd dat.length cd) dat := (Fr.of_below (B := 0) (show Below w3.heap.size w3 wr by rw [HB3e.out]; exact hbw.out) []).owns HDAT.out (by simp)
              have HDW := Lib.hid hdat
              clear hke HACC hdat
              go_upto_region 39 with fail
              clear hlt dlt
              obtain ⟨xa, ca, rfl⟩ := brow_shape hrow
              go_wp2_with (at_builtin; refine wpList_app_str el_u8 Try.underlying9 hrow hszr rfl rfl rfl rfl (by omega) ?_)
              intro v8 w8 hr8 hg8
              obtain ⟨hb8, hs8⟩ := below_app' hbw.out hszr hrow hg8
              have hdat8 : BRow w8 B2 5 (.slice xd dat.length cd) dat := (Fr.of_below (B := 0) (show Below w3.heap.size w3 w8 by rw [HB3e.out]; exact hb8) []).owns HDAT.out (by simp)
              obtain ⟨out2, hout2⟩ : ∃ o, o = acc ++ T.data.toList := ⟨_, rfl⟩
              rw [← hout2] at hr8
              have ho2l : out2.length ≤ 10000 := by rw [hout2, List.length_append, ba_size]; omega
              have HOUT2 := Lib.hid hout2
              obtain ⟨xb, cb, rfl⟩ := brow_shape hr8
              clear hout2 hrow hszr hg8 hbw HDW
              go_upto_region 40 with fail
              go_wp2_with (at_builtin; refine wpList_app_row el_u8 hr8 hs8 rfl rfl rfl hdat8 HNEd.out rfl (by omega) ?_)
              intro v9 w9 hr9 hb9
              have HFL : Hid (out2 ++ dat = fileT W H D pk ms px) := by
                have hTl : (txtT ms).length = T.size := by rw [← HTX.out, ba_size]
                show _ = _
                unfold fileT
                rw [hTl, HTG.out, HCP.out, HDT.out, ← HTX.out, ← HBA.out, show 22 + 12 * tg = ta by rw [HTA.out, HBA.out]; omega, show ta + T.size = da from HDA.out.symm]
                rw [HOUT2.out, HACC4.out, HXP.out, HXN4.out, HXN3.out, HXN2.out, HXN1.out, HXN0.out, HXM.out, HX9.out, HX8.out, HX7.out, HX6.out, HX5.out, HX4.out]
                simp [litR]
              obtain ⟨fl, hfl⟩ : ∃ fl, fl = out2 ++ dat := ⟨_, rfl⟩
              rw [← hfl] at hr9 HFL
              have hfll : fl.length ≤ 2000000 := by rw [hfl, List.length_append]; omega
              have HBW : Hid (Below B w w9) := HBL3.out.trans ((hb8.trans hb9).mono (by omega))
              obtain ⟨xf, cf, rfl⟩ := brow_shape hr9
              clear hfl hb9 hb8 hr8 hs8 hdat8
              by_cases hbig : 1048576 < fl.length
              · have db : decide ((1048576 : Int) < (fl.length : Int)) = true := by simp; omega
                have HF : Hid (encT W H px D pk ms = .error 3) := by show _ = _; rw [HE3.out, if_pos (by rw [← HFL.out]; exact hbig)]
                clear hbig
                go_wp2_with fail
                refine bodyPost_ret (v := .tuple #[.string ⟨#[]⟩, .int .i64 3]) (by simp [results, Try.f24, go_sem]) rfl ⟨?_, by rw [HB.out]; exact HBW.out⟩
                rw [HF.out]; rfl
              · have db : decide ((1048576 : Int) < (fl.length : Int)) = false := by simp; omega
                have HF : Hid (encT W H px D pk ms = .ok (fileT W H D pk ms px)) := by show _ = _; rw [HE3.out, if_neg (by rw [← HFL.out]; exact hbig)]
                have hst := run_str_of Try.underlying54 Try.underlying5 Try.underlying9 hr9
                clear hbig
                go_wp2_with fail
                refine bodyPost_ret (v := .tuple #[.string ⟨fl.toArray⟩, .int .i64 0]) (by simp [results, Try.f24, go_sem]) rfl ⟨?_, by rw [HB.out]; exact HBW.out⟩
                rw [HF.out, ← HFL.out]; rfl
end Go.Proofs.Ytakileiomgaahaa
