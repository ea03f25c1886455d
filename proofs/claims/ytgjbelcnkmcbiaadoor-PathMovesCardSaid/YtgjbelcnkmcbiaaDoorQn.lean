/-
  Walks: path.kindOf, path.number; what the library's tables and errors must be.
-/
import Derived.Lib.ConvBytes
import Derived.Lib.LaidTab
import Derived.LaidLaws
import Derived.Test.YtgjbelcnkmcbiaaDoorQd
import Derived.Test.YtgjbelcnkmcbiaaDoorBw
import Derived.Test.YtgjbelcnkmcbiaaDoorQsh
namespace Go.Proofs.YtgjbelcnkmcbiaaDoor
open Go.RowKit

theorem var_below {P : Program} {w w' : World} {n : String} {cs : Array Value} (h : w.var? P n = some cs) (hb : Below w.heap.size w w') : w'.var? P n = some cs := by
  unfold World.var? at *
  cases hg : P.globalNamed n with
  | none => rw [hg] at h; cases h
  | some g =>
    rw [hg] at h
    simp only [Option.bind_some] at h ⊢
    have hlt : g < w.heap.size := by
      rcases Nat.lt_or_ge g w.heap.size with hl | hl
      · exact hl
      · rw [Array.getElem?_eq_none hl] at h; cases h
    rw [hb.block g hlt]
    exact h
/-- What the call's world holds of the library's variables. -/
structure Ldd (w : World) : Prop where
  tab : Lib.TabIs Tryd.prog w "internal/strconv.uint64pow10" .u64 Lib.pow10Tab
  es : ∃ tp p, w.var? Tryd.prog "strconv.ErrSyntax" = some #[.iface tp p]
  er : ∃ tp p, w.var? Tryd.prog "strconv.ErrRange" = some #[.iface tp p]
theorem Ldd.below {w w' : World} (h : Ldd w) (hb : Below w.heap.size w w') : Ldd w' := by
  obtain ⟨h1, ⟨a, b, h2⟩, c, d, h3⟩ := h
  exact ⟨tab_below h1 hb, ⟨a, b, var_below h2 hb⟩, c, d, var_below h3 hb⟩
theorem below_grow (w : World) (k : Nat) (os : Array Obj) : Below w.heap.size w (Sort.grow (w.drewN k) os) := by
  refine ⟨rfl, rfl, rfl, ?_, fun j hj => ?_⟩
  · simp [Sort.grow]
  · show (w.heap ++ os)[j]? = _
    rw [Array.getElem?_append_left hj]
theorem itoa_any (n : Int) (h0 : -9223372036854775808 ≤ n) (h1 : n ≤ 9223372036854775807) (w : World) (ht : Lib.TabIs Tryd.prog w "internal/strconv.uint64pow10" .u64 Lib.pow10Tab) :
    Calls Tryd.prog 45 #[.int .i64 n] w fun e w' => e = .returned (.string ⟨(Lib.itoa n).toArray⟩) ∧ Below w.heap.size w w' := by
  refine (Tryd.strconv_Itoa n h0 h1 w ht).mono ?_
  rintro e w' ⟨rfl, k, os, rfl⟩
  exact ⟨rfl, below_grow w k os⟩
/-- strconv.Atoi: the number, or some error. -/
theorem atoi_any (s : ByteArray) (hs : s.size ≤ 281474976710656) (w : World) (hl : Ldd w) :
    Calls Tryd.prog 71 #[.string s] w fun e w' => (∃ v, Lib.atoiAll s.data.toList = .ok v ∧ e = .returned (.tuple #[.int .i64 v, .nilIface]) ∨ (∀ v, Lib.atoiAll s.data.toList ≠ .ok v) ∧ ∃ t p, e = .returned (.tuple #[.int .i64 v, .iface t p])) ∧ Below w.heap.size w w' := by
  rcases h : Lib.atoiAll s.data.toList with v | _ | _
  · refine (Tryd.strconv_Atoi_ok s (by omega) v h w).mono ?_
    rintro e w' ⟨rfl, hw⟩
    refine ⟨⟨v, .inl ⟨rfl, rfl⟩⟩, ?_⟩
    rcases hw with rfl | ⟨t, rfl⟩
    · exact Below.refl _ _
    · exact ⟨rfl, rfl, rfl, by rw [Lib.bytesWorld_size]; omega, fun j hj => Lib.bytesWorld_at_old _ _ _ _ hj⟩
  · obtain ⟨tp, p, h2⟩ := hl.es
    refine (Any.strconv_Atoi_syntax_var Tryd.laysC172 s hs h tp p w h2).mono ?_
    rintro e w' ⟨N, rfl, -, -, hb⟩
    exact ⟨⟨0, .inr ⟨(by intro v hv; cases hv), _, _, rfl⟩⟩, hb⟩
  · obtain ⟨tp, p, h2⟩ := hl.er
    refine (Tryd.strconv_Atoi_range_var s hs h tp p w h2).mono ?_
    rintro e w' ⟨N, rfl, -, -, hb⟩
    exact ⟨⟨_, .inr ⟨(by intro v hv; cases hv), _, _, rfl⟩⟩, hb⟩
/-- The number that a word is. -/
def numP (l : List UInt8) : Option Int := match Lib.atoiAll l with | .ok v => if Lib.itoa v = l then some v else none | _ => none
def numV (l : List UInt8) : Value := match numP l with | some v => .tuple #[.int .i64 v, .bool true] | none => .tuple #[.int .i64 0, .bool false]
set_option maxRecDepth 100000 in
theorem number_any (l : List UInt8) (hs : l.length ≤ 281474976710656) (w : World) (hl : Ldd w) :
    Calls Tryd.prog 50 #[.string ⟨l.toArray⟩] w fun e w' => e = .returned (numV l) ∧ Below w.heap.size w w' := by
  have HA := Lib.hid (atoi_any ⟨l.toArray⟩ (by simpa [ByteArray.size] using hs) w hl)
  go_enter Tryd.func50, Tryd.ntmps50
  go_wp2_with fail
  refine HA.out.mono ?_
  rintro e w1 ⟨⟨v, ⟨h1, rfl⟩ | ⟨h1, t, p, rfl⟩⟩, hb⟩
  · have hv := Lib.atoiAll_bounds h1
    have HI := Lib.hid (itoa_any v hv.1 hv.2 w1 (tab_below hl.tab hb))
    have HN : Hid (numV l = if Lib.itoa v = l then .tuple #[.int .i64 v, .bool true] else .tuple #[.int .i64 0, .bool false]) := by
      show numV l = _
      have h1' : Lib.atoiAll l = .ok v := h1
      unfold numV numP
      rw [h1']
      by_cases he : Lib.itoa v = l <;> simp [he]
    go_wp2_with fail
    refine HI.out.mono ?_
    rintro e w2 ⟨rfl, hb2⟩
    by_cases he : Lib.itoa v = l
    · rw [he]
      go_wp2_with fail
      go_ret2
      exact ⟨by rw [HN.out, if_pos he]; rfl, bthen hb hb2⟩
    · have he2 : (Lib.itoa v == l) = false := by simpa using he
      go_wp2_with fail
      go_ret2
      exact ⟨by rw [HN.out, if_neg he]; rfl, bthen hb hb2⟩
  · have HN : Hid (numV l = .tuple #[.int .i64 0, .bool false]) := by
      show numV l = _
      unfold numV numP
      have h1' : ∀ v, Lib.atoiAll l ≠ .ok v := h1
      rcases h : Lib.atoiAll l with v | _ | _
      · exact absurd h (h1' v)
      · rfl
      · rfl
    go_wp2_with fail
    go_ret2
    exact ⟨HN.out.symm ▸ rfl, hb⟩
/-- The kind that a letter names. -/
def kindP (l : List UInt8) : Int := if l = [77] then 1 else if l = [76] then 2 else if l = [81] then 3 else if l = [67] then 4 else if l = [90] then 5 else 0
theorem kindOf_any (l : List UInt8) (w : World) (hs : l.length ≤ 281474976710656) : Calls Tryd.prog 49 #[.string ⟨l.toArray⟩] w fun e w' => e = .returned (.int .i64 (kindP l)) ∧ w' = w := by
  go_enter Tryd.func49, Tryd.ntmps49
  by_cases h1 : l.length = 1
  · obtain ⟨c, rfl⟩ : ∃ c, l = [c] := List.length_eq_one_iff.1 h1
    have HI := Lib.hid (Tryd.strings_Index_one ⟨#[77, 76, 81, 67, 90]⟩ c w)
    have HK : Hid (kindP [c] = Lib.indexByte [77, 76, 81, 67, 90] c + 1 ∧ -1 ≤ Lib.indexByte [77, 76, 81, 67, 90] c ∧ Lib.indexByte [77, 76, 81, 67, 90] c ≤ 5) := by
      show _ ∧ _ ∧ _
      unfold kindP Lib.indexByte Lib.indexByte Lib.indexByte Lib.indexByte Lib.indexByte Lib.indexByte
      by_cases e1 : c = 77
      · subst e1; decide
      by_cases e2 : c = 76
      · subst e2; decide
      by_cases e3 : c = 81
      · subst e3; decide
      by_cases e4 : c = 67
      · subst e4; decide
      by_cases e5 : c = 90
      · subst e5; decide
      simp [e1, e2, e3, e4, e5, Ne.symm e1, Ne.symm e2, Ne.symm e3, Ne.symm e4, Ne.symm e5]
    have hi : Lib.indexByte (ByteArray.mk #[77, 76, 81, 67, 90]).data.toList c = Lib.indexByte [77, 76, 81, 67, 90] c := rfl
    rw [hi] at HI
    clear hi
    generalize Lib.indexByte [77, 76, 81, 67, 90] c = i at *
    have hw : wrap64 (i + 1) = i + 1 := wrap64_of _ (by have := HK.out; omega)
    go_wp2_with fail
    refine HI.out.mono ?_
    rintro e w' ⟨rfl, hw'⟩
    rw [hw']
    clear hw'
    go_wp2_with fail
    go_ret
    exact ⟨by rw [HK.out.1]; exact ret_int hw, rfl⟩
  · have hk : kindP l = 0 := by
      unfold kindP
      rw [if_neg (by rintro rfl; exact h1 rfl), if_neg (by rintro rfl; exact h1 rfl), if_neg (by rintro rfl; exact h1 rfl), if_neg (by rintro rfl; exact h1 rfl), if_neg (by rintro rfl; exact h1 rfl)]
    have hsz : (⟨l.toArray⟩ : ByteArray).size = l.length := by simp [ByteArray.size]
    have h2 : ¬ ((l.length : Int) = 1) := by omega
    rw [hk]
    go_wp2_with fail
    go_ret
    exact ⟨rfl, rfl⟩
end Go.Proofs.YtgjbelcnkmcbiaaDoor
