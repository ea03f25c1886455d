/-
  The law PngEncodes.
-/
import Derived.Test.YthbejefodelpkaaGreatZV11
import Derived.Test.YthbejefodelpkaaGreatZO
import Derived.Test.YthbejefodelpkaaGreatZOm
namespace Go.Proofs.YthbejefodelpkaaGreat
open Go.RowKit

def encS : Except Nat (List UInt8) → ByteArray
  | .error _ => ⟨#[]⟩
  | .ok l => ⟨l.toArray⟩
def encK : Except Nat (List UInt8) → Nat
  | .error k => k
  | .ok _ => 0
theorem enc_shape {r : Except Nat (List UInt8)} {e : Ending} (h : JoOk r e) : e = .returned (.tuple #[.string (encS r), .int .i64 (encK r : Nat)]) := by
  cases r <;> exact h
theorem encode_run (W H d : Int) (v mv : Value) (px : List Px) (ms : List Mt) (w : World) (hp : PRow w v px) (hm : MRow w mv ms) :
    Calls Tryz.prog 22 #[.agg (imgI W H v), .int .i64 d, mv] w fun e w' => e = .returned (.tuple #[.string (encS (gencP W H px d ms)), .int .i64 (encK (gencP W H px d ms) : Nat)]) ∧ Below w.heap.size w w' :=
  (encode_any W H d v mv px ms w hp hm).mono fun _ _ ⟨h, b⟩ => ⟨enc_shape h, b⟩
theorem vencode_run (W H d : Int) (v mv : Value) (px : List Px) (ms : List Mt) (w : World) (hp : PRow w v px) (hm : MRow w mv ms) (hsz : ∀ m ∈ ms, m.1.length ≤ maxLen ∧ m.2.length ≤ maxLen) :
    Calls Tryz.prog 23 #[.agg (imgI W H v), .int .i64 d, mv] w fun e w' => e = .returned (.tuple #[.string (encS (gencP W H px d ms)), .int .i64 (encK (gencP W H px d ms) : Nat)]) ∧ Below w.heap.size w w' :=
  (vencode_any W H d v mv px ms w hp hm hsz).mono fun _ _ ⟨h, b⟩ => ⟨enc_shape h, b⟩

set_option maxHeartbeats 2000000 in
set_option maxRecDepth 100000 in
theorem lawEncodes (v : Value) (d : Int) (mv : Value) (w : World) (hv : IArg w v) (_hd : (Lit.int .i64 d).wf = true) (hm : MArg w mv) :
    Calls Tryz.prog 6 #[v, .int .i64 d, mv] w fun e w' => e = .returned (.bool true) ∧ Below w.heap.size w w' := by
  obtain ⟨W, H, pv, px, rfl, hp⟩ := hv
  obtain ⟨ms, hm, hsz⟩ := hm
  obtain ⟨x, c, rfl, -⟩ := id hp
  obtain ⟨xm, cm, rfl, -⟩ := id hm
  have HA := Lib.hid (fun w h1 h2 => encode_run W H d (.slice x px.length c) (.slice xm ms.length cm) px ms w h1 h2)
  have HB := Lib.hid (fun w h1 h2 => vencode_run W H d (.slice x px.length c) (.slice xm ms.length cm) px ms w h1 h2 hsz)
  have HEX := Lib.hid (fun w => awake_any w)
  generalize encS (gencP W H px d ms) = s at *
  generalize encK (gencP W H px d ms) = k at *
  have hba := (Below.refl w.heap.size w).alloc (Nat.le_refl _) (.cells #[.int .i64 W, .int .i64 H, .slice x px.length c] 36)
  have HP1 := Lib.hid (hp.below hba)
  have HM1 := Lib.hid (hm.below hba)
  have HK1 := Lib.hid (Blk.new w 36 #[.int .i64 W, .int .i64 H, .slice x px.length c])
  have HB1 := Lib.hid hba
  clear hp hm hba hsz
  go_enter Tryz.func6, Tryz.ntmps6
  go_upto_region 1 with fail
  generalize w.alloc (.cells #[.int .i64 W, .int .i64 H, .slice x px.length c] 36) = wz at *
  generalize hB : w.heap.size = B at *
  have HBB := Lib.hid hB
  clear hB
  have y0 : wz.cell? ⟨B, 0, none⟩ = some (.int .i64 W) := HK1.out.cell 0
  have y1 : wz.cell? ⟨B, 1, none⟩ = some (.int .i64 H) := HK1.out.cell 1
  have y2 : wz.cell? ⟨B, 2, none⟩ = some (.slice x px.length c) := HK1.out.cell 2
  go_wp2_with fail
  refine (HA.out _ HP1.out HM1.out).mono ?_
  rintro e w1 ⟨rfl, hb1⟩
  have HP2 := Lib.hid (HP1.out.below hb1)
  have HM2 := Lib.hid (HM1.out.below hb1)
  have HK2 : Hid (Blk w1 B 36 #[.int .i64 W, .int .i64 H, .slice x px.length c]) := (hb1.block _ HK1.out.lt).trans HK1.out
  have HB2 : Hid (Below B w w1) := HB1.out.trans (hb1.mono (by have := HK1.out.lt; omega))
  clear y0 y1 y2 hb1 HA HP1 HM1 HK1 HB1
  have y0 : w1.cell? ⟨B, 0, none⟩ = some (.int .i64 W) := HK2.out.cell 0
  have y1 : w1.cell? ⟨B, 1, none⟩ = some (.int .i64 H) := HK2.out.cell 1
  have y2 : w1.cell? ⟨B, 2, none⟩ = some (.slice x px.length c) := HK2.out.cell 2
  go_wp2_with fail
  refine (HB.out _ HP2.out HM2.out).mono ?_
  rintro e w2 ⟨rfl, hb2⟩
  have HB3 : Hid (Below B w w2) := HB2.out.trans (hb2.mono (by have := HK2.out.lt; omega))
  have HS3 : Hid (B ≤ w2.heap.size) := by have h1 := HK2.out.lt; have h2 := hb2.size; show _ ≤ _; omega
  clear y0 y1 y2 hb2 HB HP2 HM2 HK2 HB2
  have ek : ((k : Int) == (k : Int)) = true := by simp
  go_wp2_with fail
  refine (HEX.out _).mono ?_
  rintro e w3 ⟨rfl, hb3⟩
  have HB4 : Hid (Below B w w3) := HB3.out.trans (hb3.mono HS3.out)
  clear hb3
  go_wp2_with fail
  go_ret
  exact ⟨rfl, by rw [HBB.out]; exact HB4.out⟩
end Go.Proofs.YthbejefodelpkaaGreat
