/-
  The laws MetaSets, MetaTexts, MetaKeeps.
-/
import Derived.Test.YtggogfjfkimcgaaM12
namespace Go.Proofs.Ytggogfjfkimcgaa
open Go.RowKit

theorem same_list (k v : List UInt8) (l : List Mt) (n : Nat) (h : setErr l k v = n) : (n = 0 → setRes l k v = setL l k v) ∧ (n ≠ 0 → setRes l k v = []) := by
  unfold setRes
  rw [h]
  exact ⟨fun h => if_pos h, fun h => if_neg h⟩

set_option maxRecDepth 100000 in
set_option maxHeartbeats 4000000 in
theorem lawSets (v : Value) (s1 s2 : ByteArray) (w : World) (hr : MArg w v) (hs1 : s1.size ≤ maxLen) (hs2 : s2.size ≤ maxLen) :
    Calls Try.prog 4 #[v, .string s1, .string s2] w fun e w' => e = .returned (.bool true) ∧ Below w.heap.size w w' := by
  obtain ⟨l, hr, hsz⟩ := hr
  obtain ⟨k, rfl, hk, -⟩ := strL s1
  obtain ⟨val, rfl, hv, -⟩ := strL s2
  obtain ⟨x, c, rfl, -⟩ := id hr
  have HR2 := Lib.hid (fun w h => rset_any (.slice x l.length c) l k val w h hsz (by rw [hk]; exact hs1) (by rw [hv]; exact hs2))
  clear hsz hk hv hs1 hs2
  have hval := fun h => @set_valid l k val h
  have hsl := same_list k val l _ rfl
  go_enter Try.func4, Try.ntmps4
  go_wp2_with fail
  refine (set_any _ l k val _ hr).mono ?_
  rintro e w1 ⟨⟨v1, rfl, hr1⟩, hb1⟩
  have HR3 := Lib.hid (HR2.out w1 (hr.below hb1))
  clear HR2
  unfold SetOk at HR3
  generalize setErr l k val = er at *
  generalize setRes l k val = L at *
  have HVAL := Lib.hid hval
  have HSL := Lib.hid hsl
  clear hval hsl
  obtain ⟨x1, c1, rfl, -⟩ := id hr1
  go_wp2_with fail
  refine HR3.out.mono ?_
  rintro e w2 ⟨⟨v2, rfl, hr2⟩, hb2⟩
  have hr12 := hr1.below hb2
  have hb12 := bthen hb1 hb2
  clear hr1 hb1 hb2 HR3 hr
  obtain ⟨x2, c2, rfl, -⟩ := id hr2
  go_wp2_with fail
  refine (same_any _ _ L _ hr12 hr2).mono ?_
  rintro e w3 ⟨rfl, n3, rfl⟩
  have hb13 := below_drewN hb12 n3
  have hr13 := hr12.drewN n3
  clear hb12 hr12 hr2
  generalize w2.drewN n3 = w3 at *
  by_cases h0 : er = 0
  · subst h0
    have hL : chkP L = 0 := by rw [HSL.out.1 rfl]; exact HVAL.out rfl
    go_wp2_with fail
    refine (check_any _ L _ hr13).mono ?_
    rintro e w4 ⟨rfl, hb4⟩
    rw [hL]
    have hb14 := bthen hb13 hb4
    clear hL hb13 hb4 hr13
    go_wp2_with fail
    refine (awake_any _).mono ?_
    rintro e w5 ⟨rfl, hb5⟩
    go_wp2_with fail
    go_ret
    exact ⟨rfl, bthen hb14 hb5⟩
  · have hne0 : ((er : Int) != 0) = true := by simp; omega
    go_wp2_with fail
    refine (awake_any _).mono ?_
    rintro e w5 ⟨rfl, hb5⟩
    go_wp2_with fail
    go_ret
    exact ⟨rfl, bthen hb13 hb5⟩

def parAt : Except (Nat × Nat) (List Mt) → Nat | .error x => x.1 | .ok _ => 0
def parErr : Except (Nat × Nat) (List Mt) → Nat | .error x => x.2 | .ok _ => 0
def parList : Except (Nat × Nat) (List Mt) → List Mt | .error _ => [] | .ok l => l
theorem parOk_row {r : Except (Nat × Nat) (List Mt)} {e : Ending} {w : World} (h : ParOk r e w) : ∃ v : Value, e = .returned (.tuple #[v, .int .i64 (parAt r), .int .i64 (parErr r)]) ∧ MRow w v (parList r) := by
  rcases r with ⟨p, k⟩ | l
  · exact ⟨_, h, mrow_nil w⟩
  · obtain ⟨v, rfl, hr⟩ := h
    exact ⟨v, rfl, hr⟩

set_option maxRecDepth 100000 in
set_option maxHeartbeats 4000000 in
theorem lawTexts (v : Value) (s : ByteArray) (w : World) (hr : MArg w v) (hs : s.size ≤ maxLen) :
    Calls Try.prog 5 #[v, .string s] w fun e w' => e = .returned (.bool true) ∧ Below w.heap.size w w' := by
  obtain ⟨l, hr, hsz⟩ := hr
  obtain ⟨x, c, rfl, -⟩ := id hr
  have HRP := Lib.hid (fun w h => rprint_any (.slice x l.length c) l w h hsz)
  have HP := Lib.hid (fun w => rparse_any s w hs)
  obtain ⟨k, rfl, hk, hk2⟩ := strL s
  rw [hk2] at HP
  have HP1 := Lib.hid (fun w => parse_any k w (by rw [hk]; exact hs))
  clear hsz hk hs hk2
  have HPR := Lib.hid (fun w h => print_any (.slice x l.length c) l w h)
  generalize prtP l = pt at *
  generalize chkP l = ch at *
  generalize parP k = pr at *
  go_enter Try.func5, Try.ntmps5
  go_wp2_with fail
  refine (HPR.out _ hr).mono ?_
  rintro e w1 ⟨rfl, hb1⟩
  have hr1 := hr.below hb1
  go_wp2_with fail
  refine (HRP.out _ hr1).mono ?_
  rintro e w2 ⟨rfl, hb2⟩
  have hb12 := bthen hb1 hb2
  clear hb1 hb2 hr1 hr HRP HPR
  go_wp2_with fail
  refine (HP1.out _).mono ?_
  rintro e w3 ⟨hok, hb3⟩
  obtain ⟨v3, rfl, hr3⟩ := parOk_row hok
  clear hok
  obtain ⟨p1, hp1⟩ : ∃ p1, parAt pr = p1 := ⟨_, rfl⟩
  obtain ⟨p2, hp2⟩ : ∃ p2, parErr pr = p2 := ⟨_, rfl⟩
  obtain ⟨L, hL⟩ : ∃ L, parList pr = L := ⟨_, rfl⟩
  rw [hp1, hp2]
  rw [hL] at hr3
  have HA1 := Lib.hid hp1
  have HA2 := Lib.hid hp2
  have HA3 := Lib.hid hL
  clear hp1 hp2 hL
  obtain ⟨x3, c3, rfl, -⟩ := id hr3
  go_wp2_with fail
  refine (HP.out _).mono ?_
  rintro e w4 ⟨hok, hb4⟩
  obtain ⟨v4, rfl, hr4⟩ := parOk_row hok
  rw [HA1.out, HA2.out]
  rw [HA3.out] at hr4
  clear hok HA1 HA2 HA3 HP HP1
  have hr34 := hr3.below hb4
  have hb14 := bthen (bthen hb12 hb3) hb4
  clear hr3 hb12 hb3 hb4
  obtain ⟨x4, c4, rfl, -⟩ := id hr4
  go_wp2_with fail
  refine (same_any _ _ L _ hr34 hr4).mono ?_
  rintro e w5 ⟨rfl, n5, rfl⟩
  have hb15 := below_drewN hb14 n5
  clear hb14 hr34 hr4
  generalize w4.drewN n5 = w5 at *
  go_wp2_with fail
  refine (awake_any _).mono ?_
  rintro e w6 ⟨rfl, hb6⟩
  go_wp2_with fail
  go_ret
  exact ⟨rfl, bthen hb15 hb6⟩

set_option maxRecDepth 100000 in
set_option maxHeartbeats 4000000 in
theorem lawKeeps (v : Value) (s1 s2 s3 : ByteArray) (w : World) (hr : MArg w v) (_hs1 : s1.size ≤ maxLen) (_hs2 : s2.size ≤ maxLen) (_hs3 : s3.size ≤ maxLen) :
    Calls Try.prog 6 #[v, .string s1, .string s2, .string s3] w fun e w' => e = .returned (.bool true) ∧ Below w.heap.size w w' := by
  obtain ⟨l, hr, -⟩ := hr
  obtain ⟨k, rfl, -, -⟩ := strL s1
  obtain ⟨val, rfl, -, -⟩ := strL s2
  obtain ⟨oth, rfl, -, -⟩ := strL s3
  obtain ⟨x, c, rfl, -⟩ := id hr
  have HSL := Lib.hid (same_list k val l _ rfl)
  have HBK := Lib.hid (fun h => @set_back l k val h)
  have HGS := Lib.hid (get_set l k val)
  have HGO := Lib.hid (get_other l k val oth)
  go_enter Try.func6, Try.ntmps6
  go_wp2_with fail
  refine (set_any _ l k val _ hr).mono ?_
  rintro e w1 ⟨⟨v1, rfl, hr1⟩, hb1⟩
  generalize setErr l k val = er at *
  by_cases h0 : er = 0
  · subst h0
    have hrl := hr.below hb1
    rw [HSL.out.1 rfl] at hr1
    obtain ⟨hk1, hk2⟩ := HBK.out rfl
    have HK1 := Lib.hid hk1
    have HK2 := Lib.hid hk2
    clear HBK HSL hk1 hk2 hr
    generalize setL l k val = A at *
    obtain ⟨x1, c1, rfl, -⟩ := id hr1
    go_wp2_with fail
    refine (get_any _ A k _ hr1).mono ?_
    rintro e w2 ⟨rfl, hb2⟩
    have hr12 := hr1.below hb2
    have hrl2 := hrl.below hb2
    have hb12 := bthen hb1 hb2
    clear hr1 hrl hb1 hb2
    have hov : optV (getP A k) = .tuple #[.string ⟨val.toArray⟩, .bool (!val.isEmpty)] := by
      rw [HGS.out]
      by_cases hv : val = []
      · subst hv; rfl
      · rw [if_neg hv]
        have : val.isEmpty = false := by simpa using hv
        rw [this]; rfl
    rw [hov]
    clear hov HGS
    go_wp2_with fail
    refine (get_any _ l oth _ hrl2).mono ?_
    rintro e w3 ⟨rfl, hb3⟩
    have hr13 := hr12.below hb3
    have hrl3 := hrl2.below hb3
    have hb13 := bthen hb12 hb3
    clear hr12 hrl2 hb12 hb3
    obtain ⟨g1, g2, hg⟩ : ∃ (g1 : List UInt8) (g2 : Bool), optV (getP l oth) = .tuple #[.string ⟨g1.toArray⟩, .bool g2] := ⟨_, _, rfl⟩
    rw [hg]
    have HG := Lib.hid hg
    clear hg
    go_wp2_with fail
    refine (get_any _ A oth _ hr13).mono ?_
    rintro e w4 ⟨rfl, hb4⟩
    have hr14 := hr13.below hb4
    have hrl4 := hrl3.below hb4
    have hb14 := bthen hb13 hb4
    clear hr13 hrl3 hb13 hb4
    obtain ⟨f1, f2, hf⟩ : ∃ (f1 : List UInt8) (f2 : Bool), optV (getP A oth) = .tuple #[.string ⟨f1.toArray⟩, .bool f2] := ⟨_, _, rfl⟩
    rw [hf]
    have hfg : oth ≠ k → f1 = g1 ∧ f2 = g2 := by
      intro ho
      rw [HGO.out ho, HG.out] at hf
      injection hf with hf
      injection hf with hf
      injection hf with h1 h2
      injection h2 with h2 _
      injection h1 with h1
      injection h1 with h1
      injection h2 with h2
      exact ⟨by simpa using h1.symm, h2.symm⟩
    clear hf HG HGO
    obtain ⟨old, hold⟩ : ∃ old, (getP l k).getD [] = old := ⟨_, rfl⟩
    have HOLD := Lib.hid hold
    rw [hold] at HK1 HK2
    clear hold
    have hgl : ∃ b, optV (getP l k) = .tuple #[.string ⟨old.toArray⟩, .bool b] := ⟨_, by rw [← HOLD.out]; rfl⟩
    obtain ⟨bo, hbo⟩ := hgl
    have HBO := Lib.hid hbo
    clear hbo
    cases ho : (oth == k) with
    | true =>
      clear hfg
      go_wp2_with fail
      refine (get_any _ l k _ hrl4).mono ?_
      rintro e w5 ⟨rfl, hb5⟩
      rw [HBO.out]
      have hr15 := hr14.below hb5
      have hrl5 := hrl4.below hb5
      have hb15 := bthen hb14 hb5
      clear hr14 hrl4 hb14 hb5
      go_wp2_with fail
      refine (set_any _ A k old _ hr15).mono ?_
      rintro e w6 ⟨⟨v6, rfl, hr6⟩, hb6⟩
      rw [HK1.out]
      unfold setRes at hr6
      rw [if_pos HK1.out, HK2.out] at hr6
      have hrl6 := hrl5.below hb6
      have hb16 := bthen hb15 hb6
      clear hr15 hrl5 hb15 hb6
      obtain ⟨x6, c6, rfl, -⟩ := id hr6
      go_wp2_with fail
      refine (same_any _ _ l _ hr6 hrl6).mono ?_
      rintro e w7 ⟨rfl, n7, rfl⟩
      have hb17 := below_drewN hb16 n7
      generalize w6.drewN n7 = w7 at *
      go_wp2_with fail
      refine (awake_any _).mono ?_
      rintro e w8 ⟨rfl, hb8⟩
      go_wp2_with fail
      go_ret
      exact ⟨rfl, bthen hb17 hb8⟩
    | false =>
      obtain ⟨rfl, rfl⟩ := hfg (by simpa using ho)
      clear hfg
      go_wp2_with fail
      refine (get_any _ l k _ hrl4).mono ?_
      rintro e w5 ⟨rfl, hb5⟩
      rw [HBO.out]
      have hr15 := hr14.below hb5
      have hrl5 := hrl4.below hb5
      have hb15 := bthen hb14 hb5
      clear hr14 hrl4 hb14 hb5
      go_wp2_with fail
      refine (set_any _ A k old _ hr15).mono ?_
      rintro e w6 ⟨⟨v6, rfl, hr6⟩, hb6⟩
      rw [HK1.out]
      unfold setRes at hr6
      rw [if_pos HK1.out, HK2.out] at hr6
      have hrl6 := hrl5.below hb6
      have hb16 := bthen hb15 hb6
      clear hr15 hrl5 hb15 hb6
      obtain ⟨x6, c6, rfl, -⟩ := id hr6
      go_wp2_with fail
      refine (same_any _ _ l _ hr6 hrl6).mono ?_
      rintro e w7 ⟨rfl, n7, rfl⟩
      have hb17 := below_drewN hb16 n7
      generalize w6.drewN n7 = w7 at *
      go_wp2_with fail
      refine (awake_any _).mono ?_
      rintro e w8 ⟨rfl, hb8⟩
      go_wp2_with fail
      go_ret
      exact ⟨rfl, bthen hb17 hb8⟩
  · rw [HSL.out.2 h0] at hr1
    have hne0 : ((er : Int) != 0) = true := by simp; omega
    obtain ⟨x1, c1, rfl, -⟩ := id hr1
    go_wp2_with fail
    refine (awake_any _).mono ?_
    rintro e w5 ⟨rfl, hb5⟩
    go_wp2_with fail
    go_ret
    exact ⟨rfl, bthen hb1 hb5⟩
end Go.Proofs.Ytggogfjfkimcgaa
