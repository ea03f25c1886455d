/-
  Plain: the file of chunks. Walk: png.Join.
-/
import Derived.Test.YthbejefodelpkaaGreatZG3
import Derived.Test.YthbejefodelpkaaGreatZG6
import Derived.Test.YthbejefodelpkaaGreatZF
import Derived.Lib.SlBytesConst
namespace Go.Proofs.YthbejefodelpkaaGreat
open Go.RowKit
set_option maxRecDepth 100000

def jErr : List Mt → Nat
  | [] => 0
  | c :: r => if nameP c.1 = false then 13 else if 1048576 < c.2.length then 3 else jErr r
def jOrd : List Mt → Bool
  | [] => true
  | [c] => c.1 == iendP
  | c :: d :: r => c.1 != iendP && jOrd (d :: r)
def ckB (c : Mt) : List UInt8 := be4 c.2.length ++ c.1 ++ c.2 ++ be4 (crcP (c.1 ++ c.2))
def lastD (l : List Mt) : List UInt8 := (l.getLast?.getD ([], [])).2
def joinP (l : List Mt) : Except Nat (List UInt8) :=
  if jErr l ≠ 0 then .error (jErr l) else if jOrd l = false ∨ l = [] then .error 24 else if lastD l ≠ [] then .error 4 else .ok (sigP ++ l.flatMap ckB)
def JoOk (r : Except Nat (List UInt8)) (e : Ending) : Prop :=
  match r with
  | .error k => e = .returned (.tuple #[.string ⟨#[]⟩, .int .i64 (k : Nat)])
  | .ok t => e = .returned (.tuple #[.string ⟨t.toArray⟩, .int .i64 0])
theorem jErr_drop (l : List Mt) (k : Nat) (h : k < l.length) : jErr (l.drop k) = if nameP l[k].1 = false then 13 else if 1048576 < l[k].2.length then 3 else jErr (l.drop (k + 1)) := by
  rw [List.drop_eq_getElem_cons h]; rfl
theorem jOrd_drop (l : List Mt) (k : Nat) (h : k < l.length) : jOrd (l.drop k) = (((l[k].1 == iendP) == decide (k + 1 = l.length)) && jOrd (l.drop (k + 1))) := by
  rw [List.drop_eq_getElem_cons h]
  by_cases h1 : k + 1 < l.length
  · rw [List.drop_eq_getElem_cons h1]
    show (l[k].1 != iendP && _) = _
    have : decide (k + 1 = l.length) = false := by simp; omega
    rw [this]
    cases h2 : (l[k].1 == iendP) <;> simp [bne, h2]
  · rw [List.drop_of_length_le (by omega)]
    show (l[k].1 == iendP) = _
    have : decide (k + 1 = l.length) = true := by simp; omega
    rw [this]
    cases h2 : (l[k].1 == iendP) <;> simp [jOrd]
/-- The bytes of the first k chunks. -/
theorem ckB_take (l : List Mt) (k : Nat) (h : k < l.length) : (l.take (k + 1)).flatMap ckB = (l.take k).flatMap ckB ++ ckB l[k] := by
  rw [List.take_succ_eq_append_getElem h, List.flatMap_append]; simp
theorem ckB_len (c : Mt) : (ckB c).length = 8 + c.1.length + c.2.length := by
  unfold ckB
  simp only [List.length_append, be4_len]
  omega
/-- A row of chunks at its element. -/
theorem MRow.at {w : World} {x : Option Addr} {c : Nat} {l : List Mt} (h : MRow w (.slice x l.length c) l) (i : Nat) (hi : i < l.length) : ∃ b off, x = some ⟨b, off, none⟩ ∧ MCell w b off i l[i] := by
  obtain ⟨x', c', hv, h1, -, -, h4⟩ := h
  cases hv
  obtain ⟨b, off, rfl, hc⟩ := h4 (by rintro rfl; cases hi)
  exact ⟨b, off, rfl, hc i hi⟩

/-- A string appended to a row of bytes, own or full: rows of other types stay. -/
theorem wpList_app3 {P : Program} {w : World} {ops : Array Oper} {rest : List Oper} {o : Oper} {a : Act} {Q : Exit → Act → World → Prop} {sl x : Operand} {t u e : TypeId}
    (hE : Elem P t e (.int .u8 0) 1 1) (hu : P.underlying u = some .string) {base : Nat} {v : Value} {l : List UInt8} {s : ByteArray} (hf : BRow w base e v l ∨ (Full w v l ∧ 1 ≤ s.size)) (hbase : base ≤ w.heap.size)
    (hgd : o.guard = none) (ho : o.op = .call { callee := .builtin .append, args := #[sl, x], argTypes := #[t, u] }) (hs : a.eval sl = v) (hx : a.eval x = .string s) (hlen : l.length + s.size ≤ 140737488355328)
    (h : ∀ v' w', BRow w' base e v' (l ++ s.data.toList) → (∀ k ty cs, ty ≠ e → Blk w k ty cs → Blk w' k ty cs) → Below base w w' → wpList P ops Q rest (a.put o.dst v') w') : wpList P ops Q (o :: rest) a w := by
  refine wpList_plain hgd fun K hK => ?_
  obtain ⟨v', w', hr, h2, h3, h4⟩ : ∃ v' w', (Builtin.append_ #[t, u] o.type #[v, .string s]).run P w = .ok v' w' ∧ BRow w' base e v' (l ++ s.data.toList) ∧ (∀ k ty cs, ty ≠ e → Blk w k ty cs → Blk w' k ty cs) ∧ Below base w w' := by
    rcases hf with hf | ⟨hf, h1⟩
    · obtain ⟨ht, ⟨i, hi, hz, hsz, hby⟩, _, _⟩ := hE
      obtain ⟨v', w', hr, h2, h3, h4⟩ := Lib.run_append_own_string (P := P) w base t u o.type e i ht hu hi hz hsz hby v l.length (bcells l) hf s (by unfold maxLen; omega) hlen hbase
      refine ⟨v', w', hr, ?_, fun k ty cs hty hb => (h3.block k hb.lt (own_blk_ne' hb hf.2 hty)).trans hb, (Below.refl base w).grown h3 hbase (fun k hk => (World.ownsRow.lt hf k hk).1)⟩
      unfold BRow
      rw [bcells_append, List.length_append]
      exact h2
    · obtain ⟨v', w', hr, h2, h3⟩ := run_app_full (ty := o.type) hE hu hf h1 hlen hbase
      exact ⟨v', w', hr, h2, fun k ty cs _ hb => (h3.block k hb.lt (by simp)).trans hb, (Below.refl base w).grown h3 hbase (fun k hk => by cases hk)⟩
  unfold Oper.wp execOp
  simp only [ho, resolve, invoke, builtin, Sem.run_bind, Sem.run_pure, Result.andThen_ok, List.map_toArray, List.map_cons, List.map_nil, hs, hx, hr]
  exact hK _ _ (h v' w' h2 h3 h4)
theorem Blk.keep {w w' : World} {k : Nat} {t : TypeId} {cs : Array Value} (h : Blk w k t cs) (hb : Below w.heap.size w w') : Blk w' k t cs := (hb.block _ h.lt).trans h
theorem ORow2.shape3 {w : World} {base : Nat} {e : TypeId} {v : Value} {l : List UInt8} (h : BRow w base e v l) : ∃ x n c, v = .slice x n c := by
  obtain ⟨x, c, h⟩ := ORow2.shape (.inl h); exact ⟨x, _, c, h⟩
theorem ORow2.below {w w' : World} {base : Nat} {e : TypeId} {v : Value} {l : List UInt8} (h : ORow2 w base e v l) (hb : Below w.heap.size w w') : ORow2 w' base e v l := by
  rcases h with h | h
  · exact .inl ((Fr.of_below (B := 0) hb []).owns h (by simp))
  · exact .inr (h.below hb)
theorem run_str2 {P : Program} {w : World} {src dst e : TypeId} (hs : P.underlying src = some (.slice e)) (he : P.underlying e = some (.int .u8)) (hd : P.underlying dst = some .string)
    {base : Nat} {v : Value} {l : List UInt8} (h : ORow2 w base e v l) : (convert src dst v).run P w = .ok (.string ⟨l.toArray⟩) w := by
  rcases h with h | ⟨g, rfl, hc⟩
  · exact run_str_of hs he hd h
  · refine run_convert_bytes_back w src dst e ⟨g, 0, none⟩ l.length l hs he hd fun j hj => ?_
    rw [Addr.add_lit, Nat.zero_add]
    exact hc j hj
def sigC : Array Value := #[.int .u8 137, .int .u8 80, .int .u8 78, .int .u8 71, .int .u8 13, .int .u8 10, .int .u8 26, .int .u8 10]
theorem sig_full (w : World) : Full (w.alloc (.cells sigC 5 (8, 9))) (.slice (some ⟨w.heap.size, 0, none⟩) 8 8) sigP := by
  refine ⟨w.heap.size, rfl, fun j hj => ?_⟩
  have hb : (w.alloc (.cells sigC 5 (8, 9))).heap[w.heap.size]? = some (.cells sigC 5 (8, 9)) := heap_alloc_new w _
  have hj8 : j < 8 := hj
  rw [cell_of_row (w.alloc (.cells sigC 5 (8, 9))) w.heap.size j _ _ _ hb]
  match j, hj8 with
  | 0, _ => rfl
  | 1, _ => rfl
  | 2, _ => rfl
  | 3, _ => rfl
  | 4, _ => rfl
  | 5, _ => rfl
  | 6, _ => rfl
  | 7, _ => rfl

set_option maxHeartbeats 4000000 in
theorem join_any (v : Value) (l : List Mt) (w : World) (hr : MRow w v l) (hl : l.length ≤ 10000000) (hsz : (l.flatMap ckB).length ≤ 100000000) : Calls Tryz.prog 16 #[v] w fun e w' => JoOk (joinP l) e ∧ Below w.heap.size w w' := by
  have HSR := Lib.hid hr
  obtain ⟨x, c, rfl, hc1, hc2, -⟩ := hr
  unfold maxLen at hc2
  have HSZ : Hid (∀ k (h : k < l.length), ((l.take k).flatMap ckB).length + 8 + l[k].1.length + l[k].2.length ≤ 100000000) := by
    intro k h
    have h1 : ((l.take (k + 1)).flatMap ckB).length ≤ (l.flatMap ckB).length := by
      conv => rhs; rw [← List.take_append_drop (k + 1) l]
      rw [List.flatMap_append, List.length_append]; omega
    rw [ckB_take l k h, List.length_append, ckB_len] at h1
    omega
  have HED := Lib.hid (jErr_drop l)
  have HOD := Lib.hid (jOrd_drop l)
  clear hsz
  go_enter Tryz.func16, Tryz.ntmps16
  go_wp2_with fail
  go_loopw [13] (fun vi wr => ∃ i : Nat, vi = .int .i64 i ∧ i ≤ l.length ∧ Hid (jErr l = jErr (l.drop i)) ∧ Hid (Below w.heap.size w wr)) (fun vi _ => l.length - (intOf vi).toNat)
  case atStart => exact ⟨0, rfl, Nat.zero_le _, rfl, Below.refl _ _⟩
  case round =>
    obtain ⟨i, rfl, hi, hje, hbw⟩ := hrel
    by_cases hlt : i < l.length
    · have hd : decide ((i : Int) < (l.length : Int)) = true := by simp; omega
      obtain ⟨bb, off, rfl, q1, q2⟩ := (HSR.out.below hbw.out).at i hlt
      have HE1 := Lib.hid (HED.out i hlt)
      have hsz := HSZ.out i hlt
      obtain ⟨c1, hc1'⟩ : ∃ m : Mt, l[i] = m := ⟨_, rfl⟩
      obtain ⟨nm, dt⟩ := c1
      rw [hc1'] at q1 q2 HE1 hsz
      simp only at q1 q2 HE1 hsz
      have HNA := Lib.hid (fun w => gisName_any (⟨nm.toArray⟩ : ByteArray) w)
      have hnl : (⟨nm.toArray⟩ : ByteArray).data.toList = nm := by simp
      rw [hnl] at HNA
      obtain ⟨nb, hnb⟩ : ∃ b, nameP nm = b := ⟨_, rfl⟩
      rw [hnb] at HNA HE1
      have hdl : (⟨dt.toArray⟩ : ByteArray).size = dt.length := by simp [ByteArray.size]
      have HB1 := Lib.hid (hbw.out.alloc hbw.out.size (.cells #[.string ⟨nm.toArray⟩, .string ⟨dt.toArray⟩] 53))
      have HJ := Lib.hid (hje.out.trans HE1.out)
      clear hnb hnl hje HE1 hc1'
      go_wp2_with fail
      refine (HNA.out _).mono ?_
      rintro e w1 ⟨rfl, rfl⟩
      clear HNA q1 q2
      have HK1 : Hid (Blk (wr.alloc (.cells #[.string ⟨nm.toArray⟩, .string ⟨dt.toArray⟩] 53)) wr.heap.size 53 #[.string ⟨nm.toArray⟩, .string ⟨dt.toArray⟩]) := Blk.new wr _ _
      cases nb with
      | false =>
        have HF : Hid (joinP l = .error 13) := by
          show _ = _
          unfold joinP
          rw [HJ.out, if_pos rfl]; rfl
        clear HJ
        go_wp2_with fail
        go_ret2
        exact ⟨by rw [HF.out]; rfl, HB1.out⟩
      | true =>
        have HJ2 : Hid (jErr l = if 1048576 < dt.length then 3 else jErr (l.drop (i + 1))) := by show _ = _; rw [HJ.out, if_neg (by decide)]
        clear HJ
        by_cases hbig : 1048576 < dt.length
        · have hdb : decide ((1048576 : Int) < (dt.length : Int)) = true := by simp; omega
          have HF : Hid (joinP l = .error 3) := by
            show _ = _
            unfold joinP
            rw [HJ2.out, if_pos hbig]; rfl
          clear HJ2
          go_wp2_with fail
          go_ret2
          exact ⟨by rw [HF.out]; rfl, HB1.out⟩
        · have hdb : decide ((1048576 : Int) < (dt.length : Int)) = false := by simp; omega
          rw [if_neg hbig] at HJ2
          go_wp2_with fail
          go_roundw
          case rel => exact ⟨i + 1, by go_num, by omega, HJ2, HB1⟩
          case measure => simp [intOf]; omega
    · have hd : decide ((i : Int) < (l.length : Int)) = false := by simp; omega
      have HJ0 : Hid (jErr l = 0) := by show _ = _; rw [hje.out, List.drop_of_length_le (by omega)]; rfl
      clear hje
      go_wp2_with fail
      go_loopw [28] (fun vi wx => ∃ i : Nat, vi = .int .i64 i ∧ i ≤ l.length ∧ Hid (jOrd l = jOrd (l.drop i)) ∧ Hid (Below w.heap.size w wx)) (fun vi _ => l.length - (intOf vi).toNat)
      case atStart => exact ⟨0, rfl, Nat.zero_le _, rfl, hbw.out⟩
      case round =>
        obtain ⟨k, rfl, hk, hjo, hbx⟩ := hrel
        by_cases hlk : k < l.length
        · have hdk : decide ((k : Int) < (l.length : Int)) = true := by simp; omega
          obtain ⟨bb, off, rfl, q1, q2⟩ := (HSR.out.below hbx.out).at k hlk
          have HO1 := Lib.hid (HOD.out k hlk)
          obtain ⟨c1, hc1'⟩ : ∃ m : Mt, l[k] = m := ⟨_, rfl⟩
          obtain ⟨nm, dt⟩ := c1
          rw [hc1'] at q1 q2 HO1
          simp only at q1 q2 HO1
          have HB1 := Lib.hid (hbx.out.alloc hbx.out.size (.cells #[.string ⟨nm.toArray⟩, .string ⟨dt.toArray⟩] 53))
          have HJ := Lib.hid (hjo.out.trans HO1.out)
          have hw1 : wrap64 ((l.length : Int) - 1) = (l.length : Int) - 1 := by unfold wrap64; omega
          obtain ⟨eb, heb⟩ : ∃ b, (nm == iendP) = b := ⟨_, rfl⟩
          obtain ⟨lb, hlb⟩ : ∃ b, decide (k + 1 = l.length) = b := ⟨_, rfl⟩
          have he2 : (nm == [73, 69, 78, 68]) = eb := heb
          have hl2 : ((k : Int) == (l.length : Int) - 1) = lb := by rw [← hlb]; apply Bool.eq_iff_iff.2; simp; omega
          rw [heb, hlb] at HJ
          clear heb hlb hc1' HO1 hjo
          cases hxx : (eb == lb) with
          | false =>
            have HF : Hid (joinP l = .error 24) := by
              show _ = _
              unfold joinP
              rw [HJ0.out, if_neg (by decide), if_pos (.inl (by rw [HJ.out, hxx]; rfl))]
            clear HJ
            go_wp2_with fail
            go_ret2
            exact ⟨by rw [HF.out]; rfl, HB1.out⟩
          | true =>
            have HF : Hid (jOrd l = jOrd (l.drop (k + 1))) := by show _ = _; rw [HJ.out, hxx]; rfl
            clear HJ
            go_wp2_with fail
            go_roundw
            case rel => exact ⟨k + 1, by go_num, by omega, HF, HB1⟩
            case measure => simp [intOf]; omega
        · have hdk : decide ((k : Int) < (l.length : Int)) = false := by simp; omega
          have HJ1 : Hid (jOrd l = true) := by show _ = _; rw [hjo.out, List.drop_of_length_le (by omega)]; rfl
          clear hjo
          by_cases hz : l.length = 0
          · have hz0 : ((l.length : Int) == 0) = true := by rw [hz]; rfl
            have HF : Hid (joinP l = .error 24) := by
              show _ = _
              unfold joinP
              rw [HJ0.out, if_neg (by decide), if_pos (.inr (List.length_eq_zero_iff.1 hz))]
            clear hz
            go_wp2_with fail
            go_ret2
            exact ⟨by rw [HF.out]; rfl, hbx.out⟩
          · have hz0 : ((l.length : Int) == 0) = false := by simp; exact fun h => hz (by rw [h]; rfl)
            obtain ⟨n, hn⟩ : ∃ n, l.length = n + 1 := ⟨l.length - 1, by omega⟩
            have HNE : Hid (l ≠ []) := fun h => hz (by rw [h]; rfl)
            have hnl : n < l.length := by omega
            obtain ⟨bb, off, rfl, q1, q2⟩ := (HSR.out.below hbx.out).at n hnl
            have HLD : Hid (lastD l = l[n].2) := by
              show _ = _
              unfold lastD
              rw [List.getLast?_eq_getElem?, show l.length - 1 = n by omega, List.getElem?_eq_getElem hnl]; rfl
            obtain ⟨c1, hc1'⟩ : ∃ m : Mt, l[n] = m := ⟨_, rfl⟩
            obtain ⟨nm, dt⟩ := c1
            rw [hc1'] at q1 q2 HLD
            simp only at q1 q2 HLD
            have hw1 : wrap64 ((l.length : Int) - 1) = (n : Int) := by unfold wrap64; omega
            have hw2 : wrap64 (n : Int) = (n : Int) := by unfold wrap64; omega
            have hN := Lib.hid hn
            have hn0 : (0 : Int) ≤ (n : Int) := by omega
            have hn1 : (n : Int) < (l.length : Int) := by omega
            have hn2 : (l.length : Int) - 1 = (n : Int) := by omega
            clear hc1' hz hn
            by_cases hdt : dt = []
            · have hde : dt.isEmpty = true := by rw [hdt]; rfl
              have HF : Hid (joinP l = .ok (sigP ++ l.flatMap ckB)) := by
                show _ = _
                unfold joinP
                rw [HJ0.out, if_neg (by decide), if_neg (by rw [HJ1.out]; simp [HNE.out]), if_neg (by rw [HLD.out, hdt]; simp)]
              clear hdt
              go_upto_region 19 with fail
              clear q1 q2
              have HO0 := Lib.hid (sig_full wr)
              have HOB : Hid (Below w.heap.size w (wr.alloc (.cells sigC 5 (8, 9)))) := hbx.out.alloc hbx.out.size _
              have hcv := Lib.run_convert_bytes_const (P := Tryz.prog) wr 54 5 sigC 8 8 Tryz.underlying54 Tryz.underlying5
              change _ = Result.ok _ (wr.alloc (.cells sigC 5 (8, 9))) at hcv
              unfold sigC at hcv HO0 HOB
              go_upto_region 20 with fail
              clear hcv
              generalize wr.alloc (.cells #[.int .u8 137, .int .u8 80, .int .u8 78, .int .u8 71, .int .u8 13, .int .u8 10, .int .u8 26, .int .u8 10] 5 (8, 9)) = w3 at *
              generalize wr.heap.size = G0 at *
              have HAL : Hid (∀ k (h : k < l.length), l[k].2.length ≤ 1048576) := by
                have key : ∀ m : List Mt, jErr m = 0 → ∀ c ∈ m, c.2.length ≤ 1048576 := by
                  intro m
                  induction m with
                  | nil => intro _ c hc; cases hc
                  | cons a r ih =>
                    intro h c hc
                    unfold jErr at h
                    split at h; · cases h
                    split at h; · cases h
                    rcases List.mem_cons.1 hc with rfl | hc
                    · omega
                    · exact ih h c hc
                intro k h
                exact key l HJ0.out _ (List.getElem_mem h)
              go_wp2_with fail
              go_loopw [8, 58] (fun vo vk wx => ∃ (k : Nat) (x : Option Addr) (n c : Nat), vk = .int .i64 k ∧ vo = .slice x n c ∧ k ≤ l.length ∧ Hid (ORow2 wx w.heap.size 5 (.slice x n c) (sigP ++ (l.take k).flatMap ckB)) ∧ Hid (Below w.heap.size w wx)) (fun _ vk _ => l.length - (intOf vk).toNat)
              case atStart => exact ⟨0, _, _, _, rfl, rfl, Nat.zero_le _, by show ORow2 _ _ _ _ _; exact .inr (by simpa using HO0.out), HOB.out⟩
              case round =>
                obtain ⟨k, xo, no, co, rfl, rfl, hk, hor, hbw⟩ := hrel
                by_cases hlk : k < l.length
                · have hdk : decide ((k : Int) < (l.length : Int)) = true := by simp; omega
                  obtain ⟨b2, off2, hxx, q1, q2⟩ := (HSR.out.below hbw.out).at k hlk
                  injection hxx with hxx
                  injection hxx with e1 e2 _
                  subst e1 e2
                  have hsz := HSZ.out k hlk
                  have hal := HAL.out k hlk
                  have HCT := Lib.hid (ckB_take l k hlk)
                  obtain ⟨acc, hacc⟩ : ∃ a, sigP ++ (l.take k).flatMap ckB = a := ⟨_, rfl⟩
                  have hal2 : acc.length = 8 + ((l.take k).flatMap ckB).length := by rw [← hacc, List.length_append]; rfl
                  rw [hacc] at hor
                  obtain ⟨c1, hc1'⟩ : ∃ m : Mt, l[k] = m := ⟨_, rfl⟩
                  obtain ⟨nm, dt⟩ := c1
                  rw [hc1'] at q1 q2 hsz hal HCT
                  simp only at q1 q2 hsz hal
                  have HN2 : Hid (sigP ++ (l.take (k + 1)).flatMap ckB = acc ++ be4 dt.length ++ nm ++ dt ++ be4 (crcP (nm ++ dt))) := by
                    show _ = _
                    rw [HCT.out, ← List.append_assoc, hacc]
                    unfold ckB
                    simp only [List.append_assoc]
                  have hsum : acc.length + nm.length + dt.length ≤ 100000000 := by omega
                  have HF1 := Lib.hid (fun w => gfour_any dt.length (by omega) w)
                  have HCR := Lib.hid (fun w => crc_any ((⟨nm.toArray⟩ : ByteArray) ++ ⟨dt.toArray⟩) w (by simp [ByteArray.size]; unfold maxLen; omega))
                  have hcl : ((⟨nm.toArray⟩ : ByteArray) ++ ⟨dt.toArray⟩).data.toList = nm ++ dt := by simp [ByteArray.data_append]
                  rw [hcl] at HCR
                  have hcrl := crcP_lt (nm ++ dt)
                  obtain ⟨cr, hcr⟩ : ∃ n, crcP (nm ++ dt) = n := ⟨_, rfl⟩
                  rw [hcr] at HCR hcrl HN2
                  have HF2 := Lib.hid (fun w => gfour_any cr (by omega) w)
                  have hcrw : wrap64 (cr : Int) = (cr : Int) := by unfold wrap64; omega
                  clear hcr hcl hacc hc1' HCT hsz hal2
                  have HK0 : Hid (Blk (wr.alloc (.cells #[.string ⟨nm.toArray⟩, .string ⟨dt.toArray⟩] 53)) wr.heap.size 53 #[.string ⟨nm.toArray⟩, .string ⟨dt.toArray⟩]) := Blk.new wr _ _
                  have HB0 := Lib.hid (hbw.out.alloc hbw.out.size (.cells #[.string ⟨nm.toArray⟩, .string ⟨dt.toArray⟩] 53))
                  have HO1 := Lib.hid (hor.out.alloc (.cells #[.string ⟨nm.toArray⟩, .string ⟨dt.toArray⟩] 53))
                  clear hor
                  go_upto_region 23 with fail
                  clear q1 q2
                  generalize wr.alloc (.cells #[.string ⟨nm.toArray⟩, .string ⟨dt.toArray⟩] 53) = wb at *
                  generalize wr.heap.size = K at *
                  have q1 : wb.cell? ⟨K, 0, none⟩ = some (.string ⟨nm.toArray⟩) := HK0.out.cell 0
                  have q2 : wb.cell? ⟨K, 1, none⟩ = some (.string ⟨dt.toArray⟩) := HK0.out.cell 1
                  go_wp2_with fail
                  refine (HF1.out _).mono ?_
                  rintro e w1 ⟨rfl, hb1⟩
                  have HK1 := Lib.hid (HK0.out.keep hb1)
                  have HB1 := Lib.hid (HB0.out.trans (hb1.mono HB0.out.size))
                  have hrow : BRow w1 w.heap.size 5 (.slice xo no co) acc ∨ (Full w1 (.slice xo no co) acc ∧ 1 ≤ (⟨(be4 dt.length).toArray⟩ : ByteArray).size) := by
                    rcases HO1.out.below hb1 with h | h
                    · exact .inl h
                    · exact .inr ⟨h, by show 1 ≤ 4; decide⟩
                  have hsz1 := HB1.out.size
                  have hln1 : acc.length + (⟨(be4 dt.length).toArray⟩ : ByteArray).size ≤ 140737488355328 := by show acc.length + 4 ≤ _; omega
                  clear q1 q2 hb1 HO1 HB0 HK0 HF1
                  go_wp2_with (at_builtin; refine wpList_app3 el_b8 Tryz.underlying9 hrow hsz1 rfl rfl rfl rfl hln1 ?_)
                  intro v2 w2 hrow2 hkp2 hbe2
                  have HK2 := Lib.hid (hkp2 _ _ _ (by decide) HK1.out)
                  have HB2 := Lib.hid (HB1.out.trans hbe2)
                  clear hrow hsz1 hln1 hkp2 hbe2 HK1 HB1
                  obtain ⟨x2, n2, c2, rfl⟩ := ORow2.shape3 hrow2
                  obtain ⟨acc2, hacc2⟩ : ∃ a, acc ++ be4 dt.length = a := ⟨_, rfl⟩
                  have hl2 : acc2.length = acc.length + 4 := by rw [← hacc2, List.length_append]; rfl
                  rw [hacc2] at hrow2 HN2
                  have q1 : w2.cell? ⟨K, 0, none⟩ = some (.string ⟨nm.toArray⟩) := HK2.out.cell 0
                  have hsz2 := HB2.out.size
                  have hln2 : acc2.length + (⟨nm.toArray⟩ : ByteArray).size ≤ 140737488355328 := by show acc2.length + nm.length ≤ _; omega
                  clear hacc2
                  go_wp2_with (at_builtin; refine wpList_app3 el_b8 Tryz.underlying9 (.inl hrow2) hsz2 rfl rfl rfl rfl hln2 ?_)
                  intro v3 w3' hrow3 hkp3 hbe3
                  have HK3 := Lib.hid (hkp3 _ _ _ (by decide) HK2.out)
                  have HB3 := Lib.hid (HB2.out.trans hbe3)
                  clear hrow2 hsz2 hln2 hkp3 hbe3 HK2 HB2 q1
                  obtain ⟨x3, n3, c3, rfl⟩ := ORow2.shape3 hrow3
                  obtain ⟨acc3, hacc3⟩ : ∃ a, acc2 ++ nm = a := ⟨_, rfl⟩
                  have hl3 : acc3.length = acc2.length + nm.length := by rw [← hacc3, List.length_append]
                  rw [hacc3] at hrow3 HN2
                  have q2 : w3'.cell? ⟨K, 1, none⟩ = some (.string ⟨dt.toArray⟩) := HK3.out.cell 1
                  have hsz3 := HB3.out.size
                  have hln3 : acc3.length + (⟨dt.toArray⟩ : ByteArray).size ≤ 140737488355328 := by show acc3.length + dt.length ≤ _; omega
                  clear hacc3
                  go_wp2_with (at_builtin; refine wpList_app3 el_b8 Tryz.underlying9 (.inl hrow3) hsz3 rfl rfl rfl rfl hln3 ?_)
                  intro v4 w4 hrow4 hkp4 hbe4
                  have HK4 := Lib.hid (hkp4 _ _ _ (by decide) HK3.out)
                  have HB4 := Lib.hid (HB3.out.trans hbe4)
                  clear hrow3 hsz3 hln3 hkp4 hbe4 HK3 HB3 q2
                  obtain ⟨x4, n4, c4, rfl⟩ := ORow2.shape3 hrow4
                  obtain ⟨acc4, hacc4⟩ : ∃ a, acc3 ++ dt = a := ⟨_, rfl⟩
                  have hl4 : acc4.length = acc3.length + dt.length := by rw [← hacc4, List.length_append]
                  rw [hacc4] at hrow4 HN2
                  have HROW4 := Lib.hid hrow4
                  have q1 : w4.cell? ⟨K, 0, none⟩ = some (.string ⟨nm.toArray⟩) := HK4.out.cell 0
                  have q2 : w4.cell? ⟨K, 1, none⟩ = some (.string ⟨dt.toArray⟩) := HK4.out.cell 1
                  have hcat : ¬ (9223372036854775807 < (⟨nm.toArray⟩ : ByteArray).size + (⟨dt.toArray⟩ : ByteArray).size) := by show ¬ (_ < nm.length + dt.length); omega
                  clear hacc4 hrow4
                  go_wp2_with fail
                  refine (HCR.out _).mono ?_
                  rintro e w5 ⟨rfl, hb5⟩
                  have HB5 := Lib.hid (HB4.out.trans (hb5.mono HB4.out.size))
                  have HR5 : Hid (BRow w5 w.heap.size 5 (.slice x4 n4 c4) acc4) := (Fr.of_below (B := 0) hb5 []).owns HROW4.out (by simp)
                  clear hb5 HB4 HROW4 HK4 HCR q1 q2 hcat
                  go_wp2_with fail
                  refine (HF2.out _).mono ?_
                  rintro e w6 ⟨rfl, hb6⟩
                  have HB6 := Lib.hid (HB5.out.trans (hb6.mono HB5.out.size))
                  have hrow6 : BRow w6 w.heap.size 5 (.slice x4 n4 c4) acc4 := (Fr.of_below (B := 0) hb6 []).owns HR5.out (by simp)
                  have hsz6 := HB6.out.size
                  have hln6 : acc4.length + (⟨(be4 cr).toArray⟩ : ByteArray).size ≤ 140737488355328 := by show acc4.length + 4 ≤ _; omega
                  clear hb6 HB5 HR5 HF2
                  go_wp2_with (at_builtin; refine wpList_app3 el_b8 Tryz.underlying9 (.inl hrow6) hsz6 rfl rfl rfl rfl hln6 ?_)
                  intro v7 w7 hrow7 hkp7 hbe7
                  have HB7 := Lib.hid (HB6.out.trans hbe7)
                  have HR7 : Hid (BRow w7 w.heap.size 5 v7 (sigP ++ (l.take (k + 1)).flatMap ckB)) := by
                    show BRow _ _ _ _ _
                    rw [HN2.out]
                    exact hrow7
                  obtain ⟨x7, n7, c7, rfl⟩ := ORow2.shape3 hrow7
                  clear hrow6 hsz6 hln6 hkp7 hbe7 HB6 hrow7
                  go_wp2_with fail
                  go_roundw
                  case rel => exact ⟨k + 1, x7, n7, c7, by go_num, rfl, by omega, .inl HR7.out, HB7⟩
                  case measure => simp [intOf]; omega
                · have hdk : decide ((k : Int) < (l.length : Int)) = false := by simp; omega
                  rw [List.take_of_length_le (by omega)] at hor
                  have hcs := run_str2 Tryz.underlying54 Tryz.underlying5 Tryz.underlying9 hor.out
                  clear hor
                  go_wp2_with fail
                  go_ret2
                  exact ⟨by rw [HF.out]; rfl, hbw.out⟩
            · have hde : dt.isEmpty = false := by simpa using hdt
              have HF : Hid (joinP l = .error 4) := by
                show _ = _
                unfold joinP
                rw [HJ0.out, if_neg (by decide), if_neg (by rw [HJ1.out]; simp [HNE.out]), if_pos (by rw [HLD.out]; exact hdt)]
              clear hdt
              go_wp2_with fail
              go_ret2
              exact ⟨by rw [HF.out]; rfl, hbx.out⟩
end Go.Proofs.YthbejefodelpkaaGreat
