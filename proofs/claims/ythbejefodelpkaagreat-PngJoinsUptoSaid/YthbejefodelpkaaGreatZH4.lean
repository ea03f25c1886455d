/-
  How an argument []api.Chunk is read (of a narrowed row); the law PngParts.
-/
import Derived.Test.YthbejefodelpkaaGreatZO
import Derived.Test.YthbejefodelpkaaGreatZJ
import Derived.Deep.SlicePairs
import Derived.ChangeArms
import Derived.Test.YthbejefodelpkaaGreatRows
namespace Go.Proofs.YthbejefodelpkaaGreat
open Go.RowKit Go.ChangeShapes Go.WideShapes
set_option maxRecDepth 100000

def strOf : Value → List UInt8 | .string s => s.data.toList | _ => []
section
variable {H : Type} {enc : TypeId × Value → H} {W : World} {n : Nat}
theorem bulkAll_app (a b : List (DataW H)) : Rows.uptoBulkAll (a ++ b) = Rows.uptoBulkAll a + Rows.uptoBulkAll b := by
  induction a with
  | nil => simp [Rows.uptoBulkAll]
  | cons d r ih => simp only [List.cons_append, Rows.uptoBulkAll, ih]; omega
theorem bulkAll_sum (D : Nat → DataW H) (L : Nat → Nat) : ∀ k, (∀ i, i < k → L i + 1 ≤ Rows.uptoBulk (D i)) → ((List.range k).map L).sum + k ≤ Rows.uptoBulkAll ((List.range k).map D) := by
  intro k
  induction k with
  | zero => intro _; simp [Rows.uptoBulkAll]
  | succ k ih =>
    intro h
    have h1 := ih (fun i hi => h i (by omega))
    have h2 := h k (by omega)
    rw [List.range_succ, List.map_append, List.map_append, bulkAll_app, List.sum_append]
    simp only [List.map_cons, List.map_nil, Rows.uptoBulkAll, List.sum_cons, List.sum_nil]
    omega
/-- What is known of an argument that is a list of chunks. -/
def CArg (w : World) (v : Value) : Prop := ∃ l : List Mt, MRow w v l ∧ l.length ≤ 1048576 ∧ (l.flatMap ckB).length ≤ 9437184
theorem ckB_sum (l : List Mt) : (l.flatMap ckB).length = (l.map fun m => m.1.length + m.2.length).sum + 8 * l.length := by
  induction l with
  | nil => rfl
  | cons m r ih =>
    rw [List.flatMap_cons, List.length_append, ih, ckB_len, List.map_cons, List.sum_cons, List.length_cons]
    omega
theorem open_chunk {base : Nat} {v : Value} {d : DataW H} {p : List MemPlace} (hv : Value.okWide Tryz.prog W .any base 22 v)
    (h : DataW.Trod enc Tryz.prog W 0 (fun _ => true) true 22 v d p) (hb : Rows.uptoBulk d ≤ 1048576) : CArg W v := by
  obtain ⟨a0, len, cap, rfl⟩ := okWide_slice Tryz.underlying22 hv
  obtain ⟨fuel, hf⟩ := h
  rcases Deep.open_slice_pairs Tryz.underlying22 Tryz.underlying53 (by kernel_rfl) rfl rfl (by kernel_rfl) (by kernel_rfl) hf with ⟨hcs, _⟩ | ⟨a, len', cap', m, n, V0, V1, D0, D1, P0, P1, hcs, _, hl, hm, hmm, hxe, hx⟩
  · simp [Value.cells] at hcs
    obtain ⟨rfl, rfl, rfl⟩ := hcs
    exact ⟨[], mrow_nil W, by simp, by simp⟩
  · simp [Value.cells] at hcs
    obtain ⟨rfl, rfl, rfl⟩ := hcs
    simp only [if_true] at hmm
    subst hmm
    injection hxe with hxe _
    subst hxe
    have key : ∀ i, i < len → ∃ s0 s1 : ByteArray, V0 i = .string s0 ∧ V1 i = .string s1 ∧ W.cell? (a.add (i * 2)) = some (V0 i) ∧ W.cell? (a.add (i * 2 + 1)) = some (V1 i) ∧ s0.size + s1.size + 3 ≤ Rows.uptoBulk (DataW.agg [D0 i, D1 i]) := by
      intro i hi
      obtain ⟨c0, c1, t0, t1⟩ := hx i (by omega)
      obtain ⟨s0, e0, d0, m0⟩ := DataW.trod_string Tryz.underlying9 t0
      obtain ⟨s1, e1, d1, m1⟩ := DataW.trod_string Tryz.underlying9 t1
      have l0 : s0.data.toList.length = s0.size := by simp
      have l1 : s1.data.toList.length = s1.size := by simp
      injection d0 with d0 _
      injection d1 with d1 _
      refine ⟨s0, s1, by simpa using e0, by simpa using e1, c0, c1, ?_⟩
      rw [d0, d1]
      simp only [Rows.uptoBulk, Rows.uptoBulkAll]
      omega
    have hs := bulkAll_sum (fun i => DataW.agg [D0 i, D1 i]) (fun i => (strOf (V0 i)).length + (strOf (V1 i)).length + 2) len (fun i hi => by
      obtain ⟨s0, s1, e0, e1, _, _, hb⟩ := key i hi
      have l0 : s0.data.toList.length = s0.size := by simp
      have l1 : s1.data.toList.length = s1.size := by simp
      rw [e0, e1]
      show s0.data.toList.length + s1.data.toList.length + 2 + 1 ≤ _
      omega)
    simp only [Rows.uptoBulk] at hb
    have hsum : ∀ k, ((List.range k).map fun i => (strOf (V0 i)).length + (strOf (V1 i)).length + 2).sum = (((List.range k).map fun i => ((strOf (V0 i), strOf (V1 i)) : Mt)).map fun m : Mt => m.1.length + m.2.length).sum + 2 * k := by
      intro k
      induction k with
      | zero => rfl
      | succ k ih =>
        rw [List.range_succ]
        simp only [List.map_append, List.sum_append, List.map_cons, List.map_nil, List.sum_cons, List.sum_nil]
        omega
    have hs2 := hsum len
    refine ⟨(List.range len).map fun i => ((strOf (V0 i), strOf (V1 i)) : Mt), ⟨some a, _, by simp, by simpa using hl, hm, (fun h => by cases h), fun hne => ?_⟩, by simp; omega, ?_⟩
    · have hlen : 0 < len := by
        rcases Nat.eq_zero_or_pos len with h0 | h0
        · subst h0; simp at hne
        · exact h0
      obtain ⟨b, off, spot⟩ := a
      have hspot : spot = none := by
        obtain ⟨_, _, _, _, c0, _⟩ := key 0 hlen
        simpa [Addr.add] using World.cell?_spot c0
      subst hspot
      refine ⟨b, off, rfl, fun i hi => ?_⟩
      have hi' : i < len := by simpa using hi
      obtain ⟨s0, s1, e0, e1, c0, c1, _⟩ := key i hi'
      rw [Addr.add_lit] at c0 c1
      simp only [List.getElem_map, List.getElem_range]
      rw [e0] at c0
      rw [e1] at c1
      refine ⟨?_, ?_⟩
      · rw [c0, e0]; rfl
      · rw [Nat.add_assoc, c1, e1]; rfl
    · rw [ckB_sum]
      simp only [List.length_map, List.length_range]
      omega
end
theorem chunks_small {s : List UInt8} {l : List Mt} (h : chunksP s = .ok l) (hs : s.length ≤ 1048576) : l.length ≤ 10000000 ∧ (l.flatMap ckB).length ≤ 100000000 := by
  obtain ⟨h1, h2, h3, h4, h5⟩ := join_ok (join_chunks h)
  have e : s.length = 8 + (l.flatMap ckB).length := by rw [h5, List.length_append]; rfl
  exact ⟨by have := flat_len l; omega, by omega⟩
def joS (r : Except Nat (List UInt8)) : ByteArray := match r with | .error _ => ⟨#[]⟩ | .ok l => ⟨l.toArray⟩
def joK (r : Except Nat (List UInt8)) : Nat := match r with | .error k => k | .ok _ => 0
theorem JoOk.eq {r : Except Nat (List UInt8)} {e : Ending} (h : JoOk r e) : e = .returned (.tuple #[.string (joS r), .int .i64 (joK r : Nat)]) := by
  cases r with
  | error k => exact h
  | ok l => exact h
theorem joinP_err {l : List Mt} {k : Nat} (h : joinP l = .error k) : k ≠ 0 := by
  unfold joinP at h
  split at h
  · rename_i h1; cases h; exact h1
  · split at h
    · cases h; decide
    · split at h
      · cases h; decide
      · cases h

set_option maxHeartbeats 4000000 in
theorem lawParts (v : Value) (s : ByteArray) (w : World) (hv : CArg w v) (hs : s.size ≤ 1048576) :
    Calls Tryz.prog 9 #[v, .string s] w fun e w' => e = .returned (.bool true) ∧ Below w.heap.size w w' := by
  obtain ⟨l, hr, hl1, hl2⟩ := hv
  obtain ⟨xv, cv, rfl, -⟩ := id hr
  have HR := Lib.hid hr
  have HJ := Lib.hid (join_any _ l w hr (by omega) (by omega))
  have HJE := Lib.hid (fun k (h : joinP l = .error k) => joinP_err h)
  have HJC := Lib.hid (fun t (h : joinP l = .ok t) => chunks_join h)
  have HJS : Hid (∀ t, joinP l = .ok t → t.length ≤ 10000000) := fun t h => by
    obtain ⟨-, -, -, -, h5⟩ := join_ok h
    rw [h5, List.length_append]
    have : sigP.length = 8 := rfl
    omega
  have HAW := Lib.hid (fun w => awake_any w)
  have hsl : s.data.toList.length = s.size := by simp
  have HC := Lib.hid (fun w => chunks_any s w (by omega))
  obtain ⟨cr, hcr⟩ : ∃ r, chunksP s.data.toList = r := ⟨_, rfl⟩
  have HCB : Hid (∀ m, cr = .ok m → m.length ≤ 10000000 ∧ (m.flatMap ckB).length ≤ 100000000 ∧ joinP m = .ok s.data.toList) := fun m h => by
    obtain ⟨h1, h2⟩ := chunks_small (hcr.trans h) (by omega)
    exact ⟨h1, h2, join_chunks (hcr.trans h)⟩
  have HCE : Hid (∀ k, cr = .error k → k ≠ 0) := fun k h => chunksP_err (hcr.trans h)
  rw [hcr] at HC
  have es : (s.toList == s.toList) = true := by simp
  clear hcr hsl hr
  obtain ⟨jr, hjr⟩ : ∃ r, joinP l = r := ⟨_, rfl⟩
  rw [hjr] at HJ HJE HJC HJS
  clear hjr
  go_enter Tryz.func9, Tryz.ntmps9
  go_wp2_with fail
  refine HJ.out.mono ?_
  rintro e w1 ⟨he, hb1⟩
  have HB1 := Lib.hid hb1
  clear hb1 HJ
  cases jr with
  | error k =>
    have he : e = .returned (.tuple #[.string ⟨#[]⟩, .int .i64 (k : Nat)]) := he
    subst he
    have hk := HJE.out k rfl
    have dk : ((k : Int) == 0) = false := by simp; omega
    clear HJE HJC HJS hk
    go_wp2_with fail
    generalize w1 = wz at *
    refine (HC.out _).mono ?_
    rintro e w2 ⟨he, hb2⟩
    have HB2 := Lib.hid (bthen HB1.out hb2)
    clear hb2 HB1 HC
    cases cr with
    | error k =>
      have he : e = .returned (.tuple #[.slice none 0 0, .int .i64 (k : Nat)]) := he
      subst he
      have hk := HCE.out k rfl
      have dk : ((k : Int) != 0) = true := by simp; omega
      clear hk
      go_wp2_with fail
      refine (HAW.out _).mono ?_
      rintro e w3 ⟨rfl, hb3⟩
      have HB3 := Lib.hid (bthen HB2.out hb3)
      clear hb3
      go_wp2_with fail
      go_ret
      exact ⟨rfl, HB3.out⟩
    | ok m =>
      obtain ⟨vm, rfl, hm⟩ := he
      obtain ⟨x2, c2, rfl, -⟩ := id hm
      obtain ⟨hm1, hm2, hjm⟩ := HCB.out m rfl
      have HJM := Lib.hid (join_any _ m _ hm hm1 hm2)
      rw [hjm] at HJM
      clear hm hm1 hm2 hjm HCB HCE
      go_wp2_with fail
      refine HJM.out.mono ?_
      rintro e w3 ⟨he, hb3⟩
      have he : e = .returned (.tuple #[.string s, .int .i64 0]) := he
      subst he
      have HB3 := Lib.hid (bthen HB2.out hb3)
      clear hb3 HB2 HJM
      go_wp2_with fail
      refine (HAW.out _).mono ?_
      rintro e w4 ⟨rfl, hb4⟩
      have HB4 := Lib.hid (bthen HB3.out hb4)
      clear hb4
      go_wp2_with fail
      go_ret
      exact ⟨rfl, HB4.out⟩
  | ok t =>
    have he : e = .returned (.tuple #[.string ⟨t.toArray⟩, .int .i64 0]) := he
    subst he
    obtain ⟨T, hT⟩ : ∃ T : ByteArray, T = ⟨t.toArray⟩ := ⟨_, rfl⟩
    have hTd : T.data.toList = t := by rw [hT]
    have hTs : T.size ≤ 100000000 := by
      have h1 : T.size = T.data.toList.length := by simp
      have h2 := HJS.out t rfl
      rw [h1, hTd]; omega
    have HCT := Lib.hid (fun w => chunks_any T w hTs)
    rw [hTd, HJC.out t rfl] at HCT
    rw [← hT]
    clear hT hTd hTs HJE HJC HJS
    go_wp2_with fail
    refine (HCT.out _).mono ?_
    rintro e w2 ⟨⟨v2, rfl, hm2⟩, hb2⟩
    obtain ⟨x2, c2, rfl, -⟩ := id hm2
    have HB2 := Lib.hid (bthen HB1.out hb2)
    have HM2 := Lib.hid hm2
    have HR2 := Lib.hid (HR.out.below HB2.out)
    clear hm2 hb2 HCT HB1
    go_wp2_with fail
    refine (sameChunks_any _ _ l _ HM2.out HR2.out).mono ?_
    rintro e w1 ⟨rfl, hb3⟩
    have HB1 := Lib.hid (bthen HB2.out hb3)
    clear hb3 HB2 HM2 HR2
    go_wp2_with fail
    generalize w1 = wz at *
    refine (HC.out _).mono ?_
    rintro e w2 ⟨he, hb2⟩
    have HB2 := Lib.hid (bthen HB1.out hb2)
    clear hb2 HB1 HC
    cases cr with
    | error k =>
      have he : e = .returned (.tuple #[.slice none 0 0, .int .i64 (k : Nat)]) := he
      subst he
      have hk := HCE.out k rfl
      have dk : ((k : Int) != 0) = true := by simp; omega
      clear hk
      go_wp2_with fail
      refine (HAW.out _).mono ?_
      rintro e w3 ⟨rfl, hb3⟩
      have HB3 := Lib.hid (bthen HB2.out hb3)
      clear hb3
      go_wp2_with fail
      go_ret
      exact ⟨rfl, HB3.out⟩
    | ok m =>
      obtain ⟨vm, rfl, hm⟩ := he
      obtain ⟨x2, c2, rfl, -⟩ := id hm
      obtain ⟨hm1, hm2, hjm⟩ := HCB.out m rfl
      have HJM := Lib.hid (join_any _ m _ hm hm1 hm2)
      rw [hjm] at HJM
      clear hm hm1 hm2 hjm HCB HCE
      go_wp2_with fail
      refine HJM.out.mono ?_
      rintro e w3 ⟨he, hb3⟩
      have he : e = .returned (.tuple #[.string s, .int .i64 0]) := he
      subst he
      have HB3 := Lib.hid (bthen HB2.out hb3)
      clear hb3 HB2 HJM
      go_wp2_with fail
      refine (HAW.out _).mono ?_
      rintro e w4 ⟨rfl, hb4⟩
      have HB4 := Lib.hid (bthen HB3.out hb4)
      clear hb4
      go_wp2_with fail
      go_ret
      exact ⟨rfl, HB4.out⟩
end Go.Proofs.YthbejefodelpkaaGreat
