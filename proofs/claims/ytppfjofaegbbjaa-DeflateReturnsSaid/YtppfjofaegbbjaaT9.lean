/-
  Walk: making a finder.
-/
import Derived.Test.YtppfjofaegbbjaaT8
namespace Go.Proofs.Ytppfjofaegbbjaa
open Go.RowKit

theorem del_int : Elem Try.prog 61 3 (.int .i64 0) 1 8 := by
  refine ⟨Try.underlying61, ?_, rfl, by decide⟩
  exact info_parts (by kernel_rfl)

theorem fd_new {w : World} {B N f hd pv : Nat} {s : ByteArray} (hN : N = 32768) (h1 : Blk w f 63 #[.string s, .slice (some ⟨hd, 0, none⟩) N N, .slice (some ⟨pv, 0, none⟩) s.size s.size])
    (h2 : Blk w hd 3 (mkRow (.int .i64 0) N)) (h3 : Blk w pv 3 (mkRow (.int .i64 0) s.size)) (hne : hd ≠ pv) (hb : B ≤ hd) (hb' : B ≤ pv) : Fd w B N f hd pv s 0 :=
  ⟨h1, ⟨_, h2, fun h hh => by rw [mkRow_get _ _ _ hh]; rfl⟩, ⟨_, h3, mkRow_size _ _, fun q hq => absurd hq (by omega)⟩, hne, hN, hb, hb'⟩

set_option maxRecDepth 100000 in
set_option maxHeartbeats 1000000 in
theorem newFinder_any (w : World) (s : ByteArray) (hs : s.size < 1000000000) :
    Calls Try.prog 30 #[.string s] w fun e w' => (∃ N f hd pv, e = .returned (.pointer (some ⟨f, 0, none⟩)) ∧ Fd w' w.heap.size N f hd pv s 0) ∧ Below w.heap.size w w' := by
  obtain ⟨N, hN, hm1⟩ : ∃ N, N = 32768 ∧ ∀ w, (Instr.makeSlice 61 (.int .i64 32768) (.int .i64 32768)).run Try.prog w = .ok (.slice (some ⟨w.heap.size, 0, none⟩) N N) (w.alloc (.cells (mkRow (.int .i64 0) N) 3)) :=
    ⟨32768, rfl, run_mk del_int rfl 32768 (by omega) (by omega)⟩
  have hm2 := run_mk del_int rfl s.size (by omega) (by omega)
  have HN := Lib.hid hN
  clear hN
  go_enter Try.func30, Try.ntmps30
  go_wp2_with fail
  go_region
  · go_wp2_with fail
    go_ret
    refine ⟨⟨N, w.heap.size + 1 + 1, w.heap.size, w.heap.size + 1, rfl, ?_⟩, ?_⟩
    · exact fd_new HN.out (Blk.new_at (by simp) _ _) (((Blk.new w _ _).alloc _).alloc _) ((Blk.new_at (by simp) _ _).alloc _) (by omega) (Nat.le_refl _) (by omega)
    · exact ((((Below.refl _ _).alloc (Nat.le_refl _) _).alloc (by simp) _).alloc (by simp; omega) _).drew
  · go_wp2_with fail
    go_ret
    refine ⟨⟨N, w.heap.size + 1 + 1, w.heap.size + 1, w.heap.size, rfl, ?_⟩, ?_⟩
    · exact fd_new HN.out (Blk.new_at (by simp) _ _) ((Blk.new_at (by simp) _ _).alloc _) (((Blk.new w _ _).alloc _).alloc _) (by omega) (by omega) (Nat.le_refl _)
    · exact ((((Below.refl _ _).alloc (Nat.le_refl _) _).alloc (by simp) _).alloc (by simp; omega) _).drew
end Go.Proofs.Ytppfjofaegbbjaa
