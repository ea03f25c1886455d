/-
  How an argument []api.Meta is read; the laws MetaChecks, MetaSets, MetaTexts.
-/
import Derived.Test.YtggogfjfkimcgaaM10
import Derived.Deep.SlicePairs
import Derived.ChangeArms
namespace Go.Proofs.Ytggogfjfkimcgaa
open Go.RowKit Go.ChangeShapes Go.WideShapes

def strOf : Value → List UInt8 | .string s => s.data.toList | _ => []
/-- What is known of an argument that is a list of metadata. -/
def MArg (w : World) (v : Value) : Prop := ∃ l : List Mt, MRow w v l ∧ ∀ m ∈ l, m.1.length ≤ maxLen ∧ m.2.length ≤ maxLen
theorem open_meta {H : Type} {enc : TypeId × Value → H} {W : World} {base : Nat} {v : Value} {d : DataW H} {p : List MemPlace} (hv : Value.okWide Try.prog W .any base 22 v)
    (h : DataW.Trod enc Try.prog W 0 (fun _ => true) true 22 v d p) : MArg W v := by
  obtain ⟨a0, len, cap, rfl⟩ := okWide_slice Try.underlying22 hv
  obtain ⟨fuel, hf⟩ := h
  rcases Deep.open_slice_pairs Try.underlying22 Try.underlying39 (by kernel_rfl) rfl rfl (by kernel_rfl) (by kernel_rfl) hf with ⟨hcs, _⟩ | ⟨a, len', cap', m, n, V0, V1, D0, D1, P0, P1, hcs, _, hl, hm, hmm, _, hx⟩
  · simp [Value.cells] at hcs
    obtain ⟨rfl, rfl, rfl⟩ := hcs
    exact ⟨[], mrow_nil W, fun m hm => by cases hm⟩
  · simp [Value.cells] at hcs
    obtain ⟨rfl, rfl, rfl⟩ := hcs
    simp only [if_true] at hmm
    subst hmm
    have key : ∀ i, i < len → ∃ s0 s1 : ByteArray, V0 i = .string s0 ∧ V1 i = .string s1 ∧ s0.size ≤ maxLen ∧ s1.size ≤ maxLen ∧ W.cell? (a.add (i * 2)) = some (V0 i) ∧ W.cell? (a.add (i * 2 + 1)) = some (V1 i) := by
      intro i hi
      obtain ⟨c0, c1, t0, t1⟩ := hx i (by omega)
      obtain ⟨s0, e0, _, m0⟩ := DataW.trod_string Try.underlying9 t0
      obtain ⟨s1, e1, _, m1⟩ := DataW.trod_string Try.underlying9 t1
      exact ⟨s0, s1, by simpa using e0, by simpa using e1, m0, m1, c0, c1⟩
    refine ⟨(List.range len).map fun i => (strOf (V0 i), strOf (V1 i)), ⟨some a, m, by simp, by simpa using hl, hm, (fun h => by cases h), fun hne => ?_⟩, ?_⟩
    · have hlen : 0 < len := by
        rcases Nat.eq_zero_or_pos len with h0 | h0
        · subst h0; simp at hne
        · exact h0
      obtain ⟨b, off, spot⟩ := a
      have hspot : spot = none := by
        obtain ⟨_, _, _, _, _, _, c0, _⟩ := key 0 hlen
        simpa [Addr.add] using World.cell?_spot c0
      subst hspot
      refine ⟨b, off, rfl, fun i hi => ?_⟩
      have hi' : i < len := by simpa using hi
      obtain ⟨s0, s1, e0, e1, _, _, c0, c1⟩ := key i hi'
      rw [Addr.add_lit] at c0 c1
      simp only [List.getElem_map, List.getElem_range]
      rw [e0] at c0
      rw [e1] at c1
      refine ⟨?_, ?_⟩
      · rw [c0, e0]; rfl
      · rw [Nat.add_assoc, c1, e1]; rfl
    · intro x hx'
      obtain ⟨i, hi, rfl⟩ := List.mem_map.1 hx'
      obtain ⟨s0, s1, e0, e1, m0, m1, _, _⟩ := key i (by simpa using hi)
      simp only
      rw [e0, e1]
      have l0 : s0.data.toList.length = s0.size := by simp
      have l1 : s1.data.toList.length = s1.size := by simp
      exact ⟨by show s0.data.toList.length ≤ _; omega, by show s1.data.toList.length ≤ _; omega⟩
theorem strL (s : ByteArray) : ∃ l : List UInt8, s = ⟨l.toArray⟩ ∧ l.length = s.size ∧ s.data.toList = l := ⟨s.data.toList, rfl, by simp, rfl⟩

set_option maxRecDepth 100000 in
set_option maxHeartbeats 4000000 in
theorem lawChecks (v : Value) (s : ByteArray) (w : World) (hr : MArg w v) (hs : s.size ≤ maxLen) :
    Calls Try.prog 3 #[v, .string s] w fun e w' => e = .returned (.bool true) ∧ Below w.heap.size w w' := by
  obtain ⟨l, hr, hsz⟩ := hr
  obtain ⟨k, rfl, -, -⟩ := strL s
  obtain ⟨x, c, rfl, -⟩ := id hr
  have HSZ := Lib.hid hsz
  clear hsz
  go_enter Try.func3, Try.ntmps3
  go_wp2_with fail
  refine (get_any _ l k _ hr).mono ?_
  rintro e w1 ⟨rfl, hb1⟩
  have hr1 := hr.below hb1
  obtain ⟨o, ho⟩ : ∃ o, o = getP l k := ⟨_, rfl⟩
  rw [← ho]
  obtain ⟨g1, g2, hg⟩ : ∃ (g1 : List UInt8) (g2 : Bool), optV o = .tuple #[.string ⟨g1.toArray⟩, .bool g2] := ⟨_, _, rfl⟩
  rw [hg]
  have HO := Lib.hid ho
  have HG := Lib.hid hg
  clear ho hg
  go_wp2_with fail
  refine (rget_any _ l k _ hr1).mono ?_
  rintro e w2 ⟨rfl, rfl⟩
  rw [← HO.out, HG.out]
  go_wp2_with fail
  refine (check_any _ l _ hr1).mono ?_
  rintro e w3 ⟨rfl, hb3⟩
  have hr3 := hr1.below hb3
  have hb13 := bthen hb1 hb3
  clear hr hr1 hb1 hb3
  have HRC := Lib.hid (rcheck_any _ l _ hr3 HSZ.out)
  generalize chkP l = ch at *
  go_wp2_with fail
  refine HRC.out.mono ?_
  rintro e w4 ⟨rfl, n4, rfl⟩
  have hb14 := below_drewN hb13 n4
  clear hb13 hr3 HRC
  generalize w3.drewN n4 = w4 at *
  go_wp2_with fail
  refine (awake_any _).mono ?_
  rintro e w5 ⟨rfl, hb5⟩
  go_wp2_with fail
  go_ret
  exact ⟨rfl, bthen hb14 hb5⟩
end Go.Proofs.Ytggogfjfkimcgaa
