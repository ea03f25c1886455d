/-
  Walks: the value of a key; two equal lists are the same.
-/
import Derived.Test.YtggogfjfkimcgaaM2
namespace Go.Proofs.Ytggogfjfkimcgaa
open Go.RowKit

theorem getP_drop (l : List Mt) (k : List UInt8) (i : Nat) (hi : i < l.length) (m : Mt) (hm : l[i] = m) : getP (l.drop i) k = if (m.1 == k) = true then some m.2 else getP (l.drop (i + 1)) k := by
  subst hm
  rw [List.drop_eq_getElem_cons hi]
  unfold getP
  rw [List.find?_cons]
  cases (l[i].1 == k) <;> rfl
def optV (o : Option (List UInt8)) : Value := .tuple #[.string ⟨(o.getD []).toArray⟩, .bool o.isSome]

set_option maxRecDepth 100000 in
set_option maxHeartbeats 2000000 in
theorem get_any (v : Value) (l : List Mt) (k : List UInt8) (w : World) (hr : MRow w v l) :
    Calls Try.prog 8 #[v, .string ⟨k.toArray⟩] w fun e w' => e = .returned (optV (getP l k)) ∧ Below w.heap.size w w' := by
  obtain ⟨x, c, rfl, hc1, hc2, hc3, hcell⟩ := id hr
  unfold maxLen at hc2
  go_enter Try.func8, Try.ntmps8
  go_wp2_with fail
  go_loopw [10] (fun vi wr => ∃ i : Nat, vi = .int .i64 i ∧ i ≤ l.length ∧ Hid (getP l k = getP (l.drop i) k) ∧ Hid (Below w.heap.size w wr)) (fun vi _ => l.length - (intOf vi).toNat)
  case atStart => exact ⟨0, rfl, Nat.zero_le _, rfl, Below.refl _ _⟩
  case round =>
    obtain ⟨i, rfl, hi, hch, hbw⟩ := hrel
    by_cases hlt : i < l.length
    · have hne : l ≠ [] := by rintro rfl; simp at hlt
      have hrw : MRow wr (.slice x l.length c) l := hr.below hbw.out
      obtain ⟨x', c', hv, -, -, -, hcell'⟩ := hrw
      cases hv
      obtain ⟨b, off, rfl, hcl'⟩ := hcell' hne
      obtain ⟨q1, q2⟩ := hcl' i hlt
      obtain ⟨mk, mv, hm⟩ : ∃ mk mv, l[i] = (mk, mv) := ⟨_, _, rfl⟩
      have hg := getP_drop l k i hlt _ hm
      rw [← hch.out] at hg
      rw [hm] at q1 q2
      simp only at q1 q2 hg
      clear hcl' hcell' hcell hr hch hm hc3
      have hd : decide ((i : Int) < (l.length : Int)) = true := by simp; omega
      generalize hn : l.length = n at *
      have HN := Lib.hid hn
      clear hn
      have hbz := Lib.hid (hbw.out.alloc hbw.out.size (.cells #[.string ⟨mk.toArray⟩, .string ⟨mv.toArray⟩] 39))
      cases he : (mk == k) with
      | true =>
        rw [he, if_pos rfl] at hg
        have HG := Lib.hid hg
        clear hg
        go_wp2_with fail
        go_ret2
        exact ⟨by rw [HG.out]; rfl, hbz.out⟩
      | false =>
        rw [he, if_neg (by decide)] at hg
        have HG := Lib.hid hg
        clear hg
        go_wp2_with fail
        refine ⟨⟨i + 1, by go_num, by omega, HG, hbz⟩, by simp [intOf]; omega⟩
    · have hd : decide ((i : Int) < (l.length : Int)) = false := by simp; omega
      have HZ : Hid (getP l k = none) := by show _ = _; rw [hch.out, List.drop_of_length_le (by omega)]; rfl
      go_wp2_with fail
      go_ret2
      exact ⟨by rw [HZ.out]; rfl, hbw.out⟩

set_option maxRecDepth 100000 in
set_option maxHeartbeats 2000000 in
theorem rget_any (v : Value) (l : List Mt) (k : List UInt8) (w : World) (hr : MRow w v l) :
    Calls Try.prog 9 #[v, .string ⟨k.toArray⟩] w fun e w' => e = .returned (optV (getP l k)) ∧ w = w' := by
  obtain ⟨x, c, rfl, hc1, hc2, hc3, hcell⟩ := id hr
  unfold maxLen at hc2
  go_enter Try.func9, Try.ntmps9
  go_wp2_with fail
  go_loop [9] (fun vi => ∃ i : Nat, vi = .int .i64 i ∧ i ≤ l.length ∧ Hid (getP l k = getP (l.drop i) k)) (fun vi => l.length - (intOf vi).toNat)
  case atStart => exact ⟨0, rfl, Nat.zero_le _, rfl⟩
  case round =>
    obtain ⟨i, rfl, hi, hch⟩ := hrel
    by_cases hlt : i < l.length
    · have hne : l ≠ [] := by rintro rfl; simp at hlt
      obtain ⟨b, off, rfl, hcl'⟩ := hcell hne
      obtain ⟨q1, q2⟩ := hcl' i hlt
      obtain ⟨mk, mv, hm⟩ : ∃ mk mv, l[i] = (mk, mv) := ⟨_, _, rfl⟩
      have hg := getP_drop l k i hlt _ hm
      rw [← hch.out] at hg
      rw [hm] at q1 q2
      simp only at q1 q2 hg
      clear hcl' hcell hr hch hm hc3
      have hd : decide ((i : Int) < (l.length : Int)) = true := by simp; omega
      generalize hn : l.length = n at *
      have HN := Lib.hid hn
      clear hn
      cases he : (mk == k) with
      | true =>
        rw [he, if_pos rfl] at hg
        have HG := Lib.hid hg
        clear hg
        go_wp2_with fail
        go_ret2
        exact ⟨by rw [HG.out]; rfl, rfl⟩
      | false =>
        rw [he, if_neg (by decide)] at hg
        have HG := Lib.hid hg
        clear hg
        go_wp2_with fail
        refine ⟨⟨i + 1, by go_num, by omega, HG⟩, by simp [intOf]; omega⟩
    · have hd : decide ((i : Int) < (l.length : Int)) = false := by simp; omega
      have HZ : Hid (getP l k = none) := by show _ = _; rw [hch.out, List.drop_of_length_le (by omega)]; rfl
      go_wp2_with fail
      go_ret2
      exact ⟨by rw [HZ.out]; rfl, rfl⟩

set_option maxRecDepth 100000 in
set_option maxHeartbeats 2000000 in
theorem same_any (v1 v2 : Value) (l : List Mt) (w : World) (h1 : MRow w v1 l) (h2 : MRow w v2 l) :
    Calls Try.prog 15 #[v1, v2] w fun e w' => e = .returned (.bool true) ∧ ∃ n, w' = w.drewN n := by
  obtain ⟨x1, c1, rfl, ha1, ha2, ha3, ha4⟩ := id h1
  obtain ⟨x2, c2, rfl, hb1, hb2, hb3, hb4⟩ := id h2
  unfold maxLen at ha2 hb2
  go_enter Try.func15, Try.ntmps15
  go_wp2_with fail
  go_loopw [13] (fun v wr => ∃ (i : Nat), v = .int .i64 i ∧ i ≤ l.length ∧ Hid (∃ n, wr = w.drewN n)) (fun v _ => l.length - (intOf v).toNat)
  case atStart => exact ⟨0, rfl, Nat.zero_le _, ⟨0, rfl⟩⟩
  case round =>
    obtain ⟨i, rfl, hi, hdi⟩ := hrel
    by_cases hlt : i < l.length
    · have hne : l ≠ [] := by rintro rfl; simp at hlt
      obtain ⟨x1', c1', hv1, -, -, -, hcell1⟩ : MRow wr (.slice x1 l.length c1) l := by obtain ⟨n, rfl⟩ := hdi.out; exact h1.drewN n
      obtain ⟨x2', c2', hv2, -, -, -, hcell2⟩ : MRow wr (.slice x2 l.length c2) l := by obtain ⟨n, rfl⟩ := hdi.out; exact h2.drewN n
      cases hv1
      cases hv2
      obtain ⟨g1, o1, rfl, hcl1⟩ := hcell1 hne
      obtain ⟨g2, o2, rfl, hcl2⟩ := hcell2 hne
      obtain ⟨p1, p2⟩ := hcl1 i hlt
      obtain ⟨q1, q2⟩ := hcl2 i hlt
      obtain ⟨mk, mv, hm⟩ : ∃ mk mv, l[i] = (mk, mv) := ⟨_, _, rfl⟩
      rw [hm] at p1 p2 q1 q2
      simp only at p1 p2 q1 q2
      have hg1 : decide ((i : Int) < (l.length : Int)) = true := by simp; omega
      have i0 : (0 : Int) ≤ (i : Int) := by omega
      have i1 : (i : Int) < (l.length : Int) := by omega
      clear h1 h2 hcl1 hcl2 hcell1 hcell2 hm ha3 ha4 hb3 hb4
      go_wp2_with fail
      go_quiet (fail)
      go_wp2_with fail
      refine ⟨⟨i + 1, by go_num, by omega, ?_⟩, by simp [intOf]; omega⟩
      obtain ⟨n, hn⟩ := hdi.out
      exact ⟨n + nq, by rw [hn]; simp [World.drewN]; omega⟩
    · have hg1 : decide ((i : Int) < (l.length : Int)) = false := by simp; omega
      go_wp2_with fail
      go_ret
      exact ⟨rfl, hdi.out⟩
end Go.Proofs.Ytggogfjfkimcgaa
