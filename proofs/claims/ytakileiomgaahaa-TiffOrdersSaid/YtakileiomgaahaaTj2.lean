/-
  The program of tiff: first, kindRight.
-/
import Derived.Test.YtakileiomgaahaaTj1
namespace Go.Proofs.Ytakileiomgaahaa
open Go.RowKit

def firstN (l : List Tg) (id : Int) (o : Nat) : Nat := match valsT l id with | [] => o | v :: _ => v
theorem firstT_nat (l : List Tg) (id : Int) (o : Nat) : firstT l id (o : Int) = (firstN l id o : Int) := by
  unfold firstT firstN
  cases valsT l id <;> rfl

set_option maxHeartbeats 2000000 in
set_option maxRecDepth 100000 in
theorem tfirst_any (v : Value) (l : List Tg) (id other : Int) (w : World) (hr : TRow w v l) : Calls Try.prog 75 #[v, .int .i64 id, .int .i64 other] w fun e w' => e = .returned (.int .i64 (firstT l id other)) ∧ Below w.heap.size w w' := by
  have HFI := Lib.hid (tfind_any v l id w hr)
  have HF : Hid (firstT l id other = match ((findT l id).getD tag0).vals with | [] => other | v :: _ => (v : Int)) := rfl
  generalize (findT l id).getD tag0 = t at *
  generalize (findT l id).isSome = bs at *
  go_enter Try.func75, Try.ntmps75
  go_wp2_with fail
  refine HFI.out.mono ?_
  rintro e w1 ⟨u, rfl, hu, hb1⟩
  obtain ⟨ux, uc, rfl⟩ := hu.shape
  have HU := Lib.hid hu
  obtain ⟨ti, ty, tv, tx⟩ := t
  simp only at HF HU
  unfold tcA
  simp only
  clear hu HFI
  have hk := Blk.new w1 70 #[.int .i64 (ti : Int), .int .i64 (ty : Int), .slice ux tv.length uc, .string ⟨tx.toArray⟩]
  have hkb := (Below.refl w1.heap.size w1).alloc (Nat.le_refl _) (.cells #[.int .i64 (ti : Int), .int .i64 (ty : Int), .slice ux tv.length uc, .string ⟨tx.toArray⟩] 70)
  go_upto_region 2 with fail
  have HU2 := Lib.hid (HU.out.below hkb)
  have HBE : Hid (Below w.heap.size w (w1.alloc (.cells #[.int .i64 (ti : Int), .int .i64 (ty : Int), .slice ux tv.length uc, .string ⟨tx.toArray⟩] 70))) := hb1.trans (hkb.mono hb1.size)
  generalize w1.alloc (.cells #[.int .i64 (ti : Int), .int .i64 (ty : Int), .slice ux tv.length uc, .string ⟨tx.toArray⟩] 70) = wk at *
  have q2 : wk.cell? ⟨w1.heap.size, 2, none⟩ = some (.slice ux tv.length uc) := hk.cell 2
  clear hk hkb HU hb1
  generalize w1.heap.size = K at *
  cases tv with
  | nil =>
    have HF2 : Hid (firstT l id other = other) := HF.out
    simp only [List.length_nil] at q2 ⊢
    clear HF
    go_wp2_with fail
    go_ret
    exact ⟨by rw [HF2.out]; rfl, HBE.out⟩
  | cons a tv =>
    have HF2 : Hid (firstT l id other = (a : Int)) := HF.out
    obtain ⟨x', c', hv, hc1, hc2, hcell⟩ := HU2.out
    cases hv
    obtain ⟨b, off, rfl, hc⟩ := hcell (by simp)
    have q3 := hc 0 (by simp)
    simp only [List.getElem_cons_zero, Nat.add_zero] at q3
    have e1 : (((a :: tv).length : Int) == 0) = false := by rw [beq_eq_false_iff_ne, List.length_cons]; omega
    have i1 : (0 : Int) < ((a :: tv).length : Int) := by rw [List.length_cons]; omega
    clear HF hc hcell hc1 HU2
    generalize (a :: tv).length = n at *
    go_wp2_with fail
    go_ret
    exact ⟨by rw [HF2.out]; rfl, HBE.out⟩
end Go.Proofs.Ytakileiomgaahaa
