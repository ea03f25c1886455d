/-
  Walks: the header of P7, in the reference of pam.
-/
import Derived.Test.YtakkdgcmeeilbaaR3
import Derived.Test.YtakkdgcmeeilbaaRs
namespace Go.Proofs.Ytakkdgcmeeilbaa
open Go.RowKit

theorem mrow_put {w : World} {v : Value} {l : List Mt} (h : MRow w v l) {p : Addr} {u0 : Value} (hc : w.cell? p = some u0) (hns : ∀ s, u0 ≠ .string s) (u : Value) : MRow (w.setCell p u) v l := by
  obtain ⟨x, c, rfl, h1, h2, h3, h4⟩ := h
  refine ⟨x, c, rfl, h1, h2, h3, fun hne => ?_⟩
  obtain ⟨b, off, rfl, hcl⟩ := h4 hne
  refine ⟨b, off, rfl, fun i hi => ?_⟩
  obtain ⟨c1, c2⟩ := hcl i hi
  refine ⟨?_, ?_⟩
  · exact (World.cell?_setCell_other _ _ _ _ (by rintro rfl; rw [hc] at c1; injection c1 with c1; exact hns _ c1)).trans c1
  · exact (World.cell?_setCell_other _ _ _ _ (by rintro rfl; rw [hc] at c2; injection c2 with c2; exact hns _ c2)).trans c2
theorem mrow_drew {w : World} {v : Value} {l : List Mt} (h : MRow w v l) : MRow w.drew v l := h
structure RS (w wr : World) (B : Nat) (v : Value) (vs : List (Option Nat)) (ms : List Mt) : Prop where
  rd : Blk wr B 44 hd60
  va : Blk wr (B + 1) 54 (valC vs)
  fo : Blk wr (B + 1 + 1) 56 (fouC vs)
  hh : Blk wr (B + 1 + 1 + 1) 44 (hd6 0 0 0 0 0 v)
  me : MRow wr v (sortM ms)
  di : DistK ms
  le : ms.length ≤ 16
  l4 : vs.length = 4
  be : Below B w wr
  sz : B + 1 + 1 + 1 < wr.heap.size
theorem RS.below {w wr w2 : World} {B : Nat} {v : Value} {vs : List (Option Nat)} {ms : List Mt} (h : RS w wr B v vs ms) (hb : Below wr.heap.size wr w2) : RS w w2 B v vs ms := by
  have hs := h.sz
  exact ⟨(hb.block _ (by omega)).trans h.rd, (hb.block _ (by omega)).trans h.va, (hb.block _ (by omega)).trans h.fo, (hb.block _ (by omega)).trans h.hh, h.me.below hb, h.di, h.le, h.l4, h.be.trans (hb.mono (by omega)), Nat.lt_of_lt_of_le hs hb.size⟩

theorem hd6_s0 (a b d c p x : Nat) (v : Value) : (hd6 a b d c p v).setIfInBounds 0 (.int .i64 x) = hd6 x b d c p v := by simp [hd6]
theorem hd6_g0 (a b d c p : Nat) (v : Value) : (hd6 a b d c p v)[0]? = some (.int .i64 a) := by simp [hd6]
theorem hd6_s1 (a b d c p x : Nat) (v : Value) : (hd6 a b d c p v).setIfInBounds 1 (.int .i64 x) = hd6 a x d c p v := by simp [hd6]
theorem hd6_g1 (a b d c p : Nat) (v : Value) : (hd6 a b d c p v)[1]? = some (.int .i64 b) := by simp [hd6]
theorem hd6_s2 (a b d c p x : Nat) (v : Value) : (hd6 a b d c p v).setIfInBounds 2 (.int .i64 x) = hd6 a b x c p v := by simp [hd6]
theorem hd6_g2 (a b d c p : Nat) (v : Value) : (hd6 a b d c p v)[2]? = some (.int .i64 d) := by simp [hd6]
theorem hd6_s3 (a b d c p x : Nat) (v : Value) : (hd6 a b d c p v).setIfInBounds 3 (.int .i64 x) = hd6 a b d x p v := by simp [hd6]
theorem hd6_g3 (a b d c p : Nat) (v : Value) : (hd6 a b d c p v)[3]? = some (.int .i64 c) := by simp [hd6]
theorem hd6_s4 (a b d c p x : Nat) (v : Value) : (hd6 a b d c p v).setIfInBounds 4 (.int .i64 x) = hd6 a b d c x v := by simp [hd6]
theorem hd6_g4 (a b d c p : Nat) (v : Value) : (hd6 a b d c p v)[4]? = some (.int .i64 p) := by simp [hd6]
theorem hd6_s5 (a b d c p : Nat) (v u : Value) : (hd6 a b d c p v).setIfInBounds 5 u = hd6 a b d c p u := by simp [hd6]
theorem hd6_g5 (a b d c p : Nat) (v : Value) : (hd6 a b d c p v)[5]? = some v := by simp [hd6]
/-- Behind the last line: the header's cells. -/
structure RZ (w wr : World) (B : Nat) (v : Value) (cs : Array Value) (vs : List (Option Nat)) (ms : List Mt) : Prop where
  rd : Blk wr B 44 hd60
  fo : Blk wr (B + 1 + 1) 56 (fouC vs)
  hh : Blk wr (B + 1 + 1 + 1) 44 cs
  me : MRow wr v (sortM ms)
  be : Below B w wr
theorem RZ.put {w wr : World} {B : Nat} {v : Value} {cs : Array Value} {vs : List (Option Nat)} {ms : List Mt} (h : RZ w wr B v cs vs ms) (i : Nat) (n : Int) (hi : cs[i]? = some (.int .i64 n)) (u : Value) : RZ w (wr.setCell ⟨B + 1 + 1 + 1, i, none⟩ u) B v (cs.setIfInBounds i u) vs ms := by
  refine ⟨h.rd.other (p := ⟨B + 1 + 1 + 1, i, none⟩) (by show B ≠ B + 1 + 1 + 1; omega) u, h.fo.other (p := ⟨B + 1 + 1 + 1, i, none⟩) (by show B + 1 + 1 ≠ B + 1 + 1 + 1; omega) u, h.hh.put i u, ?_, ?_⟩
  · exact mrow_put h.me ((h.hh.cell i).trans hi) (by intro s e; cases e) _
  · exact below_put h.be (p := ⟨B + 1 + 1 + 1, i, none⟩) (by show B ≤ B + 1 + 1 + 1; omega) _
theorem rs_fin {w wr : World} {B : Nat} {v : Value} {vs : List (Option Nat)} {ms : List Mt} (h : RS w wr B v vs ms) (n0 n1 n2 n3 a : Nat) :
    RZ w (((((wr.setCell ⟨B + 1 + 1 + 1, 0, none⟩ (.int .i64 n0)).setCell ⟨B + 1 + 1 + 1, 1, none⟩ (.int .i64 n1)).setCell ⟨B + 1 + 1 + 1, 2, none⟩ (.int .i64 n2)).setCell ⟨B + 1 + 1 + 1, 3, none⟩ (.int .i64 n3)).setCell ⟨B + 1 + 1 + 1, 4, none⟩ (.int .i64 (a : Int))).drew B v (hd6 n0 n1 n2 n3 a v) vs ms := by
  have h0 : RZ w wr B v (hd6 0 0 0 0 0 v) vs ms := ⟨h.rd, h.fo, h.hh, h.me, h.be⟩
  have h1 := h0.put 0 _ (hd6_g0 _ _ _ _ _ _) (.int .i64 n0)
  rw [hd6_s0] at h1
  have h2 := h1.put 1 _ (hd6_g1 _ _ _ _ _ _) (.int .i64 n1)
  rw [hd6_s1] at h2
  have h3 := h2.put 2 _ (hd6_g2 _ _ _ _ _ _) (.int .i64 n2)
  rw [hd6_s2] at h3
  have h4 := h3.put 3 _ (hd6_g3 _ _ _ _ _ _) (.int .i64 n3)
  rw [hd6_s3] at h4
  have h5 := h4.put 4 _ (hd6_g4 _ _ _ _ _ _) (.int .i64 a)
  rw [hd6_s4] at h5
  exact ⟨h5.rd.drew, h5.fo.drew, h5.hh.drew, mrow_drew h5.me, h5.be.drew⟩
theorem RZ.ret {w wr : World} {B : Nat} {v : Value} {n0 n1 n2 n3 a : Nat} {vs : List (Option Nat)} {ms : List Mt} (h : RZ w wr B v (hd6 n0 n1 n2 n3 a v) vs ms) (u0 u1 u2 u3 u4 : Nat) (e0 : u0 = n0) (e1 : u1 = n1) (e2 : u2 = n2) (e3 : u3 = n3) (e4 : u4 = a) :
    Blk ((((((wr.setCell ⟨B, 0, none⟩ (.int .i64 u0)).setCell ⟨B, 1, none⟩ (.int .i64 u1)).setCell ⟨B, 2, none⟩ (.int .i64 u2)).setCell ⟨B, 3, none⟩ (.int .i64 u3)).setCell ⟨B, 4, none⟩ (.int .i64 u4)).setCell ⟨B, 5, none⟩ v).drew B 44 (hd6 n0 n1 n2 n3 a v) ∧
    MRow ((((((wr.setCell ⟨B, 0, none⟩ (.int .i64 u0)).setCell ⟨B, 1, none⟩ (.int .i64 u1)).setCell ⟨B, 2, none⟩ (.int .i64 u2)).setCell ⟨B, 3, none⟩ (.int .i64 u3)).setCell ⟨B, 4, none⟩ (.int .i64 u4)).setCell ⟨B, 5, none⟩ v).drew v (sortM ms) ∧
    Below B w ((((((wr.setCell ⟨B, 0, none⟩ (.int .i64 u0)).setCell ⟨B, 1, none⟩ (.int .i64 u1)).setCell ⟨B, 2, none⟩ (.int .i64 u2)).setCell ⟨B, 3, none⟩ (.int .i64 u3)).setCell ⟨B, 4, none⟩ (.int .i64 u4)).setCell ⟨B, 5, none⟩ v).drew := by
  subst e0 e1 e2 e3 e4
  have st : ∀ {wr : World} {cs : Array Value} (i : Nat) (u0 : Value) (u : Value), (Blk wr B 44 cs ∧ MRow wr v (sortM ms) ∧ Below B w wr) → cs[i]? = some u0 → (∀ s, u0 ≠ .string s) → (Blk (wr.setCell ⟨B, i, none⟩ u) B 44 (cs.setIfInBounds i u) ∧ MRow (wr.setCell ⟨B, i, none⟩ u) v (sortM ms) ∧ Below B w (wr.setCell ⟨B, i, none⟩ u)) := by
    rintro wr cs i u0 u ⟨h1, h2, h3⟩ hi hn
    exact ⟨h1.put i u, mrow_put h2 ((h1.cell i).trans hi) hn u, below_put h3 (p := ⟨B, i, none⟩) (Nat.le_refl _) u⟩
  have kk : Blk wr B 44 (hd6 0 0 0 0 0 (.slice none 0 0)) ∧ MRow wr v (sortM ms) ∧ Below B w wr := ⟨h.rd, h.me, h.be⟩
  have k0 := st 0 _ (.int .i64 u0) kk (hd6_g0 _ _ _ _ _ _) (by intro s e; cases e)
  rw [hd6_s0] at k0
  have k1 := st 1 _ (.int .i64 u1) k0 (hd6_g1 _ _ _ _ _ _) (by intro s e; cases e)
  rw [hd6_s1] at k1
  have k2 := st 2 _ (.int .i64 u2) k1 (hd6_g2 _ _ _ _ _ _) (by intro s e; cases e)
  rw [hd6_s2] at k2
  have k3 := st 3 _ (.int .i64 u3) k2 (hd6_g3 _ _ _ _ _ _) (by intro s e; cases e)
  rw [hd6_s3] at k3
  have k4 := st 4 _ (.int .i64 u4) k3 (hd6_g4 _ _ _ _ _ _) (by intro s e; cases e)
  rw [hd6_s4] at k4
  have k5 := st 5 _ v k4 (hd6_g5 _ _ _ _ _ _) (by intro s e; cases e)
  rw [hd6_s5] at k5
  exact ⟨k5.1.drew, mrow_drew k5.2.1, k5.2.2.drew⟩

theorem addP_none {ms : List Mt} {line : List UInt8} (h : entL line = none) : addP ms line = ms := by unfold addP; rw [h]
theorem RS.setM {w wr : World} {B : Nat} {v v' : Value} {vs : List (Option Nat)} {ms ms' : List Mt} (h : RS w wr B v vs ms) (hm : MRow wr v' (sortM ms')) (hd : DistK ms') (hl : ms'.length ≤ 16) : RS w (wr.setCell ⟨B + 1 + 1 + 1, 5, none⟩ v') B v' vs ms' := by
  obtain ⟨x, c, hv, -⟩ := id h.me
  have h5 := h.hh.put 5 v'
  rw [hd6_s5] at h5
  refine ⟨h.rd.other (p := ⟨B + 1 + 1 + 1, 5, none⟩) (by show B ≠ B + 1 + 1 + 1; omega) _, h.va.other (p := ⟨B + 1 + 1 + 1, 5, none⟩) (by show B + 1 ≠ B + 1 + 1 + 1; omega) _, h.fo.other (p := ⟨B + 1 + 1 + 1, 5, none⟩) (by show B + 1 + 1 ≠ B + 1 + 1 + 1; omega) _, h5, ?_, hd, hl, h.l4, below_put h.be (p := ⟨B + 1 + 1 + 1, 5, none⟩) (by show B ≤ B + 1 + 1 + 1; omega) _, by simpa [World.setCell] using h.sz⟩
  exact mrow_put hm ((h.hh.cell 5).trans (hd6_g5 _ _ _ _ _ _)) (by rw [hv]; intro s e; cases e) _
theorem RS.setV {w wr : World} {B : Nat} {v : Value} {vs : List (Option Nat)} {ms : List Mt} (h : RS w wr B v vs ms) (k n : Nat) (hk : k < 4) : RS w ((wr.setCell ⟨B + 1, k, none⟩ (.int .i64 n)).setCell ⟨B + 1 + 1, k, none⟩ (.bool true)) B v (vs.set k (some n)) ms := by
  have kl : k < vs.length := by have := h.l4; omega
  have b1 := h.va.put k (.int .i64 n)
  rw [valC_set] at b1
  have b2 := (h.fo.other (p := ⟨B + 1, k, none⟩) (by show B + 1 + 1 ≠ B + 1; omega) (.int .i64 n)).put k (.bool true)
  rw [fouC_set vs k n] at b2
  have m1 := mrow_put h.me ((h.va.cell k).trans (valC_get vs k kl)) (by intro s e; cases e) (.int .i64 n)
  have m2 := mrow_put m1 (((h.fo.other (p := ⟨B + 1, k, none⟩) (by show B + 1 + 1 ≠ B + 1; omega) (.int .i64 n)).cell k).trans (fouC_get vs k kl)) (by intro s e; cases e) (.bool true)
  refine ⟨(h.rd.other (p := ⟨B + 1, k, none⟩) (by show B ≠ B + 1; omega) _).other (p := ⟨B + 1 + 1, k, none⟩) (by show B ≠ B + 1 + 1; omega) _, b1.other (p := ⟨B + 1 + 1, k, none⟩) (by show B + 1 ≠ B + 1 + 1; omega) _, b2, (h.hh.other (p := ⟨B + 1, k, none⟩) (by show B + 1 + 1 + 1 ≠ B + 1; omega) _).other (p := ⟨B + 1 + 1, k, none⟩) (by show B + 1 + 1 + 1 ≠ B + 1 + 1; omega) _, m2, h.di, h.le, by simpa using h.l4, ?_, by simpa [World.setCell] using h.sz⟩
  exact below_put (below_put h.be (p := ⟨B + 1, k, none⟩) (by show B ≤ B + 1; omega) _) (p := ⟨B + 1 + 1, k, none⟩) (by show B ≤ B + 1 + 1; omega) _
theorem RS.alloc {w wr : World} {B : Nat} {v : Value} {vs : List (Option Nat)} {ms : List Mt} (h : RS w wr B v vs ms) (o : Obj) : RS w (wr.alloc o) B v vs ms := h.below ((Below.refl wr.heap.size wr).alloc (Nat.le_refl _) o)

def wrdsC : Array Value := #[.string ⟨#[87, 73, 68, 84, 72, 32]⟩, .string ⟨#[72, 69, 73, 71, 72, 84, 32]⟩, .string ⟨#[68, 69, 80, 84, 72, 32]⟩, .string ⟨#[77, 65, 88, 86, 65, 76, 32]⟩]
theorem wrdsC_get (j : Nat) (hj : j < 4) : wrdsC[j]? = some (.string ⟨(wrd j).toArray⟩) := by
  match j, hj with
  | 0, _ => rfl
  | 1, _ => rfl
  | 2, _ => rfl
  | 3, _ => rfl
theorem rwords_any (w : World) : Calls Try.prog 27 #[] w fun e w' => e = .returned (.slice (some ⟨w.heap.size, 0, none⟩) 4 4) ∧ w' = w.alloc (.cells wrdsC 9) := by
  go_enter Try.func27, Try.ntmps27
  go_wp2_with fail
  go_ret
  exact ⟨rfl, rfl⟩

set_option maxHeartbeats 4000000 in
set_option maxRecDepth 100000 in
theorem rseven_any (s : ByteArray) (w : World) (hs : s.size ≤ maxLen) : Calls Try.prog 15 #[.string s] w fun e w' => RHdOk s.data.toList (sevR s.data.toList) e w' ∧ Below w.heap.size w w' := by
  obtain ⟨R, hR⟩ : ∃ R, R = sevR s.data.toList := ⟨_, rfl⟩
  have HF1 := Lib.hid (sevR_first s.data.toList)
  rw [← hR] at HF1 ⊢
  clear hR
  have HL := Lib.hid (ba_size s)
  have HS := Lib.hid hs
  unfold maxLen at hs
  go_enter Try.func15, Try.ntmps15
  go_wp2_with fail
  go_loopw [7, 8] (fun vq vn wr => ∃ (q n : Nat) (v : Value) (vs : List (Option Nat)) (ms : List Mt), vq = .int .i64 q ∧ vn = .int .i64 n ∧ n ≤ q ∧ q ≤ s.size ∧ Hid ((n = 0 ∧ q = 0 ∧ vs = [none, none, none, none] ∧ ms = []) ∨ (0 < n ∧ R = sevF (linesP (s.data.toList.drop q) vs ms))) ∧ Hid (RS w wr w.heap.size v vs ms)) (fun vq _ _ => s.size + 1 - (intOf vq).toNat)
  case atStart =>
    refine ⟨0, 0, .slice none 0 0, [none, none, none, none], [], rfl, rfl, Nat.le_refl _, Nat.zero_le _, .inl ⟨rfl, rfl, rfl, rfl⟩, ?_⟩
    refine ⟨(((Blk.new w _ _).alloc _).alloc _).alloc _, ((Blk.new_at (by simp) _ _).alloc _).alloc _, (Blk.new_at (by simp) _ _).alloc _, Blk.new_at (by simp) _ _, mrow_nil _, List.Pairwise.nil, by decide, rfl, ?_, by simp⟩
    exact ((((Below.refl w.heap.size w).alloc (Nat.le_refl _) _).alloc (by simp) _).alloc (by simp; omega) _).alloc (by simp; omega) _
  case round =>
    obtain ⟨q, n, v, vs, ms, rfl, rfl, hnq, hq, hch, hrs⟩ := hrel
    generalize hB : w.heap.size = B at *
    have HB := Lib.hid hB
    clear hB
    go_wp2_with fail
    go_loop [9] (fun v9 => ∃ e : Nat, v9 = .int .i64 e ∧ q ≤ e ∧ e ≤ s.size ∧ Hid (∀ j (h : j < s.size), q ≤ j → j < e → s[j] ≠ 10)) (fun v9 => s.size - (intOf v9).toNat)
    case atStart => exact ⟨q, rfl, Nat.le_refl _, hq, fun j _ h1 h2 => by omega⟩
    case round =>
      obtain ⟨e, rfl, hqe, hes, hne⟩ := hrel
      by_cases hlt : e < s.size
      · have hcle : decide ((e : Int) < (s.size : Int)) = true := by simp; omega
        by_cases h10 : s[e] = 10
        · have d10 : (((s[e]).toNat : Int) == 10) = true := by rw [h10]; rfl
          have HFND : Hid (fnd 10 (s.data.toList.drop q) = e - q) := fnd_from 10 s q e hqe hes (fun j hj h1 h2 => hne.out j hj h1 h2) (fun _ => h10)
          have e1 : ((e : Int) == (s.size : Int)) = false := by simp; omega
          clear h10
          obtain ⟨T, hT⟩ : ∃ T, s.extract q e = T := ⟨_, rfl⟩
          have i1 : (q : Int) ≤ (e : Int) := by omega
          have i2 : (e : Int) ≤ (s.size : Int) := by omega
          have HTL : Hid (T.data.toList = (s.data.toList.drop q).take (e - q)) := by show _ = _; rw [← hT, extract_list, List.drop_take]
          by_cases hn : n = 0
          · subst hn
            have hq0 : q = 0 := by rcases hch.out with h | h; exact h.2.1; omega
            subst hq0
            rw [List.drop_zero, Nat.sub_zero] at HFND HTL
            by_cases h7 : T.data.toList = [80, 55]
            · have q1 : (T.toList == [80, 55]) = true := by rw [ByteArray.toList_eq, h7]; rfl
              have HN : Hid (R = sevP (s.data.toList.drop (e + 1))) := by
                have := (HF1.out.2.2 (by rw [HFND.out, HL.out]; exact hlt) (by rw [HFND.out, ← HTL.out]; exact h7)).2
                show _ = _
                rw [this, HFND.out]
              have HTL2 := Lib.hid hT
              clear h7
              go_wp2_with fail
              refine ⟨⟨e + 1, 1, v, vs, ms, by go_num, rfl, by omega, by omega, ?_, hrs⟩, by simp [intOf]; omega⟩
              refine .inr ⟨by omega, ?_⟩
              rcases hch.out with ⟨-, -, h1, h2⟩ | ⟨h, -⟩
              · rw [h1, h2]; exact HN.out
              · omega
            · have q1 : (T.toList == [80, 55]) = false := by rw [ByteArray.toList_eq]; simpa using h7
              have HN : Hid (R = none) := HF1.out.2.1 (by rw [HFND.out, ← HTL.out]; exact h7)
              clear h7
              go_wp2_with (refine wpList_rset_same rfl 44 (.tmp 2) (.tmp 51) rfl rfl B hd60 (by rfl) (by rfl) 44 (by exact hrs.out.rd) hd60_inf hd60_one ?_)
              refine bodyPost_ret (v := .tuple #[.agg hd60, .bool false]) (results_ct rfl _ _ B 44 hd60 (0, 0) _ _ rfl rfl hrs.out.rd Try.underlying44 rfl hd60_inf) rfl ⟨?_, by rw [HB.out]; exact hrs.out.be⟩
              rw [HN.out]
              exact ⟨0, 0, 0, 0, 0, _, rfl, rfl⟩
          · have en : ((n : Int) == 0) = false := by simp; omega
            have HCH : Hid (R = sevF (linesP (s.data.toList.drop q) vs ms)) := by
              rcases hch.out with ⟨h, -⟩ | ⟨-, h⟩
              · exact absurd h hn
              · exact h
            have HFL : Hid (fnd 10 (s.data.toList.drop q) < (s.data.toList.drop q).length) := by show _ < _; rw [HFND.out, List.length_drop, HL.out]; omega
            have HRE : Hid ((s.data.toList.drop q).drop (fnd 10 (s.data.toList.drop q) + 1) = s.data.toList.drop (e + 1)) := by
              show _ = _; rw [HFND.out, List.drop_drop]; congr 1; omega
            have HLI : Hid ((s.data.toList.drop q).take (fnd 10 (s.data.toList.drop q)) = T.data.toList) := by show _ = _; rw [HFND.out, HTL.out]
            have HEN : Hid (T.data.toList = ENDH → R = sevF (some (vs, ms, s.data.toList.drop (e + 1)))) := fun h => by
              rw [HCH.out, linesP_end HFL.out (by rw [HLI.out]; exact h), HRE.out]
            have HBD : Hid (T.data.toList ≠ ENDH → lineP T.data.toList vs ms = none → R = none) := fun h h2 => by
              rw [HCH.out, linesP_bad HFL.out (by rw [HLI.out]; exact h) (by rw [HLI.out]; exact h2)]; rfl
            have HST : Hid (∀ vs' ms', T.data.toList ≠ ENDH → lineP T.data.toList vs ms = some (vs', ms') → R = sevF (linesP (s.data.toList.drop (e + 1)) vs' ms')) := fun vs' ms' h h2 => by
              rw [HCH.out, linesP_step HFL.out (by rw [HLI.out]; exact h) (by rw [HLI.out]; exact h2), HRE.out]
            have HTS : Hid (T.size ≤ maxLen) := by
              have h1 := congrArg List.length HTL.out
              have h2 := HS.out
              rw [List.length_take, List.length_drop, ba_size, HL.out] at h1
              show _ ≤ _; omega
            have HE0 : Hid (e < s.size) := hlt
            have HMQ : Hid (n ≤ q ∧ q ≤ e) := ⟨hnq, hqe⟩
            have HME : Hid (∀ vs' ms' v' wx, R = sevF (linesP (s.data.toList.drop (e + 1)) vs' ms') → RS w wx B v' vs' ms' →
                (∃ (q' n' : Nat) (v : Value) (vs : List (Option Nat)) (ms : List Mt), Value.int .i64 ((e : Int) + 1) = .int .i64 q' ∧ Value.int .i64 ((n : Int) + 1) = .int .i64 n' ∧ n' ≤ q' ∧ q' ≤ s.size ∧ Hid ((n' = 0 ∧ q' = 0 ∧ vs = [none, none, none, none] ∧ ms = []) ∨ (0 < n' ∧ R = sevF (linesP (s.data.toList.drop q') vs ms))) ∧ Hid (RS w wx B v vs ms))) := by
              intro vs' ms' v' wx h h'
              exact ⟨e + 1, n + 1, v', vs', ms', by go_num, by go_num, by omega, by omega, .inr ⟨by omega, h⟩, h'⟩
            clear hch HF1 HFND HCH HFL HRE HLI HTL hne
            have hsm : T.size ≤ maxLen := HTS.out
            by_cases hen : T.data.toList = ENDH
            · have q1 : (T.toList == [69, 78, 68, 72, 68, 82]) = true := by rw [ByteArray.toList_eq, hen]; rfl
              have HN := Lib.hid (HEN.out hen)
              clear hen
              obtain ⟨o0, o1, o2, o3, rfl⟩ : ∃ o0 o1 o2 o3, vs = [o0, o1, o2, o3] := by
                have h4 := hrs.out.l4
                match vs, h4 with
                | [a, b, c, d], _ => exact ⟨a, b, c, d, rfl⟩
              have y0 : wr.cell? ⟨B + 1, 0, none⟩ = some (.int .i64 (o0.getD 0 : Nat)) := hrs.out.va.cell 0
              have y1 : wr.cell? ⟨B + 1, 1, none⟩ = some (.int .i64 (o1.getD 0 : Nat)) := hrs.out.va.cell 1
              have y2 : wr.cell? ⟨B + 1, 2, none⟩ = some (.int .i64 (o2.getD 0 : Nat)) := hrs.out.va.cell 2
              have y3 : wr.cell? ⟨B + 1, 3, none⟩ = some (.int .i64 (o3.getD 0 : Nat)) := hrs.out.va.cell 3
              have x0 : wr.cell? ⟨B + 1 + 1 + 1, 0, none⟩ = some (.int .i64 0) := hrs.out.hh.cell 0
              have x1 : wr.cell? ⟨B + 1 + 1 + 1, 1, none⟩ = some (.int .i64 0) := hrs.out.hh.cell 1
              have x2 : wr.cell? ⟨B + 1 + 1 + 1, 2, none⟩ = some (.int .i64 0) := hrs.out.hh.cell 2
              have x3 : wr.cell? ⟨B + 1 + 1 + 1, 3, none⟩ = some (.int .i64 0) := hrs.out.hh.cell 3
              have x4 : wr.cell? ⟨B + 1 + 1 + 1, 4, none⟩ = some (.int .i64 0) := hrs.out.hh.cell 4
              have z0 := hrs.out.hh.frozen 0
              have z1 := hrs.out.hh.frozen 1
              have z2 := hrs.out.hh.frozen 2
              have z3 := hrs.out.hh.frozen 3
              have z4 := hrs.out.hh.frozen 4
              obtain ⟨n0, hn0⟩ : ∃ n : Nat, n = o0.getD 0 := ⟨_, rfl⟩
              obtain ⟨n1, hn1⟩ : ∃ n : Nat, n = o1.getD 0 := ⟨_, rfl⟩
              obtain ⟨n2, hn2⟩ : ∃ n : Nat, n = o2.getD 0 := ⟨_, rfl⟩
              obtain ⟨n3, hn3⟩ : ∃ n : Nat, n = o3.getD 0 := ⟨_, rfl⟩
              rw [← hn0] at y0
              rw [← hn1] at y1
              rw [← hn2] at y2
              rw [← hn3] at y3
              have HN0 := Lib.hid hn0
              have HN1 := Lib.hid hn1
              have HN2 := Lib.hid hn2
              have HN3 := Lib.hid hn3
              clear hn0 hn1 hn2 hn3
              go_wp2_with fail
              go_region
              have hzz : RZ w ((((((wr.setCell ⟨B + 1 + 1 + 1, 0, none⟩ (.int .i64 n0)).setCell ⟨B + 1 + 1 + 1, 1, none⟩ (.int .i64 n1)).setCell ⟨B + 1 + 1 + 1, 2, none⟩ (.int .i64 n2)).setCell ⟨B + 1 + 1 + 1, 3, none⟩ (.int .i64 n3)).setCell ⟨B + 1 + 1 + 1, 4, none⟩ (.int .i64 ((e : Int) + 1))).drew) B v (hd6 n0 n1 n2 n3 (e + 1) v) [o0, o1, o2, o3] ms := rs_fin hrs.out n0 n1 n2 n3 (e + 1)
              clear x0 x1 x2 x3 x4 z0 z1 z2 z3 z4 y0 y1 y2 y3 hrs
              generalize (((((wr.setCell ⟨B + 1 + 1 + 1, 0, none⟩ (.int .i64 n0)).setCell ⟨B + 1 + 1 + 1, 1, none⟩ (.int .i64 n1)).setCell ⟨B + 1 + 1 + 1, 2, none⟩ (.int .i64 n2)).setCell ⟨B + 1 + 1 + 1, 3, none⟩ (.int .i64 n3)).setCell ⟨B + 1 + 1 + 1, 4, none⟩ (.int .i64 ((e : Int) + 1))).drew = wy at *
              obtain ⟨x, c, rfl, -⟩ := id hzz.me
              have x0 : wy.cell? ⟨B + 1 + 1 + 1, 0, none⟩ = some (.int .i64 n0) := hzz.hh.cell 0
              have x1 : wy.cell? ⟨B + 1 + 1 + 1, 1, none⟩ = some (.int .i64 n1) := hzz.hh.cell 1
              have x2 : wy.cell? ⟨B + 1 + 1 + 1, 2, none⟩ = some (.int .i64 n2) := hzz.hh.cell 2
              have x3 : wy.cell? ⟨B + 1 + 1 + 1, 3, none⟩ = some (.int .i64 n3) := hzz.hh.cell 3
              have x4 : wy.cell? ⟨B + 1 + 1 + 1, 4, none⟩ = some (.int .i64 ((e + 1 : Nat) : Int)) := hzz.hh.cell 4
              have x5 : wy.cell? ⟨B + 1 + 1 + 1, 5, none⟩ = some (.slice x (sortM ms).length c) := hzz.hh.cell 5
              have r0 : wy.cell? ⟨B, 0, none⟩ = some (.int .i64 0) := hzz.rd.cell 0
              have r1 : wy.cell? ⟨B, 1, none⟩ = some (.int .i64 0) := hzz.rd.cell 1
              have r2 : wy.cell? ⟨B, 2, none⟩ = some (.int .i64 0) := hzz.rd.cell 2
              have r3 : wy.cell? ⟨B, 3, none⟩ = some (.int .i64 0) := hzz.rd.cell 3
              have r4 : wy.cell? ⟨B, 4, none⟩ = some (.int .i64 0) := hzz.rd.cell 4
              have r5 : wy.cell? ⟨B, 5, none⟩ = some (.slice none 0 0) := hzz.rd.cell 5
              have z0 := hzz.rd.frozen 0
              have z1 := hzz.rd.frozen 1
              have z2 := hzz.rd.frozen 2
              have z3 := hzz.rd.frozen 3
              have z4 := hzz.rd.frozen 4
              have z5 := hzz.rd.frozen 5
              have g0 : wy.cell? ⟨B + 1 + 1, 0, none⟩ = some (.bool o0.isSome) := hzz.fo.cell 0
              have g1 : wy.cell? ⟨B + 1 + 1, 1, none⟩ = some (.bool o1.isSome) := hzz.fo.cell 1
              have g2 : wy.cell? ⟨B + 1 + 1, 2, none⟩ = some (.bool o2.isSome) := hzz.fo.cell 2
              have g3 : wy.cell? ⟨B + 1 + 1, 3, none⟩ = some (.bool o3.isSome) := hzz.fo.cell 3
              have HZZ := Lib.hid hzz
              clear hzz
              cases o0 with
              | none =>
                simp only [Option.isSome_none] at g0
                have HN' : Hid (R = none) := HN.out
                go_wp2_with fail
                go_region
                obtain ⟨hz, hm, hb⟩ := HZZ.out.ret n0 n1 n2 n3 (e + 1) rfl rfl rfl rfl rfl
                go_wp2_with fail
                refine bodyPost_ret (v := .tuple #[.agg (hd6 n0 n1 n2 n3 (e + 1) (.slice x (sortM ms).length c)), .bool false]) (results_ct rfl _ _ B 44 (hd6 n0 n1 n2 n3 (e + 1) (.slice x (sortM ms).length c)) (0, 0) _ _ rfl rfl hz Try.underlying44 rfl (hd6_inf _ _ _ _ _ _)) rfl ⟨?_, by rw [HB.out]; exact hb⟩
                rw [HN'.out]
                exact ⟨_, _, _, _, _, _, rfl, rfl⟩
              | some o0 =>
                simp only [Option.isSome_some] at g0
                cases o1 with
                | none =>
                  simp only [Option.isSome_none] at g1
                  have HN' : Hid (R = none) := HN.out
                  go_wp2_with fail
                  go_region
                  obtain ⟨hz, hm, hb⟩ := HZZ.out.ret n0 n1 n2 n3 (e + 1) rfl rfl rfl rfl rfl
                  go_wp2_with fail
                  refine bodyPost_ret (v := .tuple #[.agg (hd6 n0 n1 n2 n3 (e + 1) (.slice x (sortM ms).length c)), .bool false]) (results_ct rfl _ _ B 44 (hd6 n0 n1 n2 n3 (e + 1) (.slice x (sortM ms).length c)) (0, 0) _ _ rfl rfl hz Try.underlying44 rfl (hd6_inf _ _ _ _ _ _)) rfl ⟨?_, by rw [HB.out]; exact hb⟩
                  rw [HN'.out]
                  exact ⟨_, _, _, _, _, _, rfl, rfl⟩
                | some o1 =>
                  simp only [Option.isSome_some] at g1
                  cases o2 with
                  | none =>
                    simp only [Option.isSome_none] at g2
                    have HN' : Hid (R = none) := HN.out
                    go_wp2_with fail
                    go_region
                    obtain ⟨hz, hm, hb⟩ := HZZ.out.ret n0 n1 n2 n3 (e + 1) rfl rfl rfl rfl rfl
                    go_wp2_with fail
                    refine bodyPost_ret (v := .tuple #[.agg (hd6 n0 n1 n2 n3 (e + 1) (.slice x (sortM ms).length c)), .bool false]) (results_ct rfl _ _ B 44 (hd6 n0 n1 n2 n3 (e + 1) (.slice x (sortM ms).length c)) (0, 0) _ _ rfl rfl hz Try.underlying44 rfl (hd6_inf _ _ _ _ _ _)) rfl ⟨?_, by rw [HB.out]; exact hb⟩
                    rw [HN'.out]
                    exact ⟨_, _, _, _, _, _, rfl, rfl⟩
                  | some o2 =>
                    simp only [Option.isSome_some] at g2
                    cases o3 with
                    | none =>
                      simp only [Option.isSome_none] at g3
                      have HN' : Hid (R = none) := HN.out
                      go_wp2_with fail
                      go_region
                      obtain ⟨hz, hm, hb⟩ := HZZ.out.ret n0 n1 n2 n3 (e + 1) rfl rfl rfl rfl rfl
                      go_wp2_with fail
                      refine bodyPost_ret (v := .tuple #[.agg (hd6 n0 n1 n2 n3 (e + 1) (.slice x (sortM ms).length c)), .bool false]) (results_ct rfl _ _ B 44 (hd6 n0 n1 n2 n3 (e + 1) (.slice x (sortM ms).length c)) (0, 0) _ _ rfl rfl hz Try.underlying44 rfl (hd6_inf _ _ _ _ _ _)) rfl ⟨?_, by rw [HB.out]; exact hb⟩
                      rw [HN'.out]
                      exact ⟨_, _, _, _, _, _, rfl, rfl⟩
                    | some o3 =>
                      simp only [Option.isSome_some] at g3
                      have HN' : Hid (R = some (n0, n1, n2, n3, sortM ms, s.data.toList.drop (e + 1))) := by
                        show _ = _
                        rw [HN.out, HN0.out, HN1.out, HN2.out, HN3.out]; rfl
                      go_wp2_with fail
                      go_region
                      obtain ⟨hz, hm, hb⟩ := HZZ.out.ret n0 n1 n2 n3 (e + 1) rfl rfl rfl rfl rfl
                      go_wp2_with fail
                      refine bodyPost_ret (v := .tuple #[.agg (hd6 n0 n1 n2 n3 (e + 1) (.slice x (sortM ms).length c)), .bool true]) (results_ct rfl _ _ B 44 (hd6 n0 n1 n2 n3 (e + 1) (.slice x (sortM ms).length c)) (0, 0) _ _ rfl rfl hz Try.underlying44 rfl (hd6_inf _ _ _ _ _ _)) rfl ⟨?_, by rw [HB.out]; exact hb⟩
                      rw [HN'.out]
                      exact ⟨e + 1, _, rfl, by have := HE0.out; rw [HL.out]; omega, rfl, hm⟩
            · have q1 : (T.toList == [69, 78, 68, 72, 68, 82]) = false := by rw [ByteArray.toList_eq]; simpa [ENDH] using hen
              have HBD2 := Lib.hid (HBD.out hen)
              have HST2 := Lib.hid (fun vs' ms' => HST.out vs' ms' hen)
              clear HEN HBD HST hen
              cases hl : T.data.toList with
              | nil =>
                have q2 : T.toList.isEmpty = true := by rw [ByteArray.toList_eq, hl]; rfl
                have HN : Hid (R = sevF (linesP (s.data.toList.drop (e + 1)) vs ms)) := HST2.out _ _ (by unfold lineP; rw [if_pos (.inl hl)])
                clear hl
                go_wp2_with fail
                go_roundw
                case rel => exact HME.out _ _ _ _ HN.out hrs.out
                case measure => have := HE0.out; have := HMQ.out; simp [intOf]; omega
              | cons c0 l0 =>
                have q2 : T.toList.isEmpty = false := by rw [ByteArray.toList_eq, hl]; rfl
                have HNE : Hid (T.data.toList ≠ []) := by show _ ≠ _; rw [hl]; simp
                have hpos : 0 < T.size := by rw [← ba_size, hl]; simp
                have h0 : T[0] = c0 := by rw [byte_at T 0 hpos, hl]; rfl
                have HG : Hid (T.data.toList.getD 0 0 = c0) := by show _ = _; rw [hl]; rfl
                have HBG := Lib.hid (fun w => begins_any T ⟨#[84, 85, 80, 76, 84, 89, 80, 69, 32]⟩ w)
                have HBG2 : Hid (∀ w, Calls Try.prog 14 #[.string T, .string ⟨#[84, 85, 80, 76, 84, 89, 80, 69, 32]⟩] w fun e w' => e = .returned (.bool (begP TUPL T.data.toList)) ∧ w = w') := fun w => HBG.out w
                clear HBG hl
                cases hbt : begP TUPL T.data.toList with
                | true =>
                  rw [hbt] at HBG2
                  have HN : Hid (R = sevF (linesP (s.data.toList.drop (e + 1)) vs ms)) := HST2.out _ _ (by unfold lineP; rw [if_pos (.inr hbt)])
                  clear hbt
                  go_wp2_with fail
                  refine (HBG2.out _).mono ?_
                  rintro e9 w9 ⟨rfl, rfl⟩
                  go_wp2_with fail
                  go_roundw
                  case rel => exact HME.out _ _ _ _ HN.out hrs.out
                  case measure => have := HE0.out; have := HMQ.out; simp [intOf]; omega
                | false =>
                  rw [hbt] at HBG2
                  have HBT := Lib.hid hbt
                  clear hbt
                  by_cases h35 : c0 = 35
                  · have d35 : ((c0.toNat : Int) == 35) = true := by rw [h35]; rfl
                    have HLP : Hid (lineP T.data.toList vs ms = some (vs, addP ms T.data.toList)) := lineP_hash HNE.out HBT.out (by rw [HG.out, h35])
                    have HE := Lib.hid (fun w => rentry_any T w HTS.out)
                    clear h35
                    go_wp2_with fail
                    refine (HBG2.out _).mono ?_
                    rintro e9 w9 ⟨rfl, rfl⟩
                    go_wp2_with fail
                    refine (HE.out _).mono ?_
                    rintro e9 w9 ⟨⟨ka, kb, ok, rfl, hent⟩, hbe⟩
                    have HENT := Lib.hid hent
                    have HR9 := Lib.hid (hrs.out.below hbe)
                    clear hent hrs hbe HE HBG2
                    cases ok with
                    | false =>
                      have HN : Hid (R = sevF (linesP (s.data.toList.drop (e + 1)) vs ms)) := HST2.out _ _ (by rw [HLP.out, addP_none (by rw [HENT.out]; rfl)])
                      go_wp2_with fail
                      refine ⟨HME.out _ _ _ _ HN.out (HR9.out.alloc _), ?_⟩
                      have := HE0.out; have := HMQ.out; simp [intOf]; omega
                    | true =>
                      have HN : Hid (R = sevF (linesP (s.data.toList.drop (e + 1)) vs (addP ms T.data.toList))) := HST2.out _ _ HLP.out
                      have HSO : Hid (sortM (addP ms T.data.toList) = insR (sortM ms) (ka, kb)) := by show _ = _; rw [sort_addP ms _ HR9.out.di HR9.out.le, HENT.out]; rfl
                      have HRA := Lib.hid (HR9.out.alloc (.cells #[.string ⟨ka.toArray⟩, .string ⟨kb.toArray⟩] 51))
                      have HBA := Lib.hid (Blk.new w9 51 #[.string ⟨ka.toArray⟩, .string ⟨kb.toArray⟩])
                      clear HR9 HENT HLP
                      go_upto_region 22 with fail
                      generalize w9.alloc (.cells #[.string ⟨ka.toArray⟩, .string ⟨kb.toArray⟩] 51) = wa at *
                      generalize w9.heap.size = K at *
                      have m0 : wa.cell? ⟨K, 0, none⟩ = some (.string ⟨ka.toArray⟩) := HBA.out.cell 0
                      have m1 : wa.cell? ⟨K, 1, none⟩ = some (.string ⟨kb.toArray⟩) := HBA.out.cell 1
                      obtain ⟨x, c, hv, -⟩ := id HRA.out.me
                      subst hv
                      have x5 : wa.cell? ⟨B + 1 + 1 + 1, 5, none⟩ = some (.slice x (sortM ms).length c) := (HRA.out.hh.cell 5).trans (hd6_g5 _ _ _ _ _ _)
                      have HIN := Lib.hid (rinsert_any (.slice x (sortM ms).length c) (sortM ms) (ka, kb) wa HRA.out.me (by rw [sortM_len ms HRA.out.di]; exact HRA.out.le))
                      go_wp2_with fail
                      refine HIN.out.mono ?_
                      rintro e8 w8 ⟨v8, rfl, hm8, hb8⟩
                      obtain ⟨x8, c8, hv8, -⟩ := id hm8
                      have HR8 := Lib.hid (HRA.out.below hb8)
                      rw [← HSO.out] at hm8
                      have HRN := Lib.hid (HR8.out.setM hm8 (addP_dist ms _ HR8.out.di) (addP_le ms _ HR8.out.le))
                      subst hv8
                      have x5' : w8.cell? ⟨B + 1 + 1 + 1, 5, none⟩ = some (.slice x (sortM ms).length c) := (HR8.out.hh.cell 5).trans (hd6_g5 _ _ _ _ _ _)
                      have z5' := HR8.out.hh.frozen 5
                      clear x5 m0 m1 hb8 hm8
                      go_wp2_with fail
                      refine ⟨HME.out _ _ _ _ HN.out HRN.out, ?_⟩
                      have := HE0.out; have := HMQ.out; simp [intOf]; omega
                  · have d35 : ((c0.toNat : Int) == 35) = false := by
                      rw [Bool.eq_false_iff]; intro h; exact h35 ((byte_eqI c0 35 (by decide)).1 h)
                    have H35 : Hid (T.data.toList.getD 0 0 ≠ 35) := by show _ ≠ _; rw [HG.out]; exact h35
                    clear h35
                    obtain ⟨ki, hki4, hkb, hk4, hkl⟩ := words_split T.data.toList
                    have HBW : Hid (∀ j, j < 4 → ∀ w, Calls Try.prog 14 #[.string T, .string ⟨(wrd j).toArray⟩] w fun e w' => e = .returned (.bool (decide (j = ki))) ∧ w = w') := by
                      intro j hj w
                      have := begins_any T ⟨(wrd j).toArray⟩ w
                      rw [← hkb j hj]
                      exact this
                    have HBL : Hid (ki < 4 → (wrd ki).length ≤ T.size) := by
                      intro h
                      have := hkb ki h
                      simp only [decide_true] at this
                      unfold begP at this
                      simp only [Bool.and_eq_true, decide_eq_true_eq] at this
                      have h2 := this.1
                      rwa [ba_size] at h2
                    have HK4 := Lib.hid hk4
                    have HKL := Lib.hid hkl
                    have HLP := Lib.hid (fun k n h => lineP_good (vs := vs) (ms := ms) HNE.out HBT.out H35.out (k := k) (n := n) h)
                    have HLB := Lib.hid (fun h => lineP_bad1 (vs := vs) (ms := ms) HNE.out HBT.out H35.out h)
                    have HLB2 := Lib.hid (fun k n h => lineP_bad2 (vs := vs) (ms := ms) HNE.out HBT.out H35.out (k := k) (n := n) h)
                    clear hkb hk4 hkl
                    go_wp2_with fail
                    refine (HBG2.out _).mono ?_
                    rintro e9 w9 ⟨rfl, rfl⟩
                    go_wp2_with fail
                    go_loopw [13, 14] (fun vf vk wr2 => ∃ (j : Nat) (vs2 : List (Option Nat)), vf = .bool (decide (ki < j)) ∧ vk = .int .i64 j ∧ j ≤ 4 ∧ Hid (RS w wr2 B v vs2 ms) ∧ Hid ((ki < j ∧ lineP T.data.toList vs ms = some (vs2, ms)) ∨ (j ≤ ki ∧ vs2 = vs))) (fun _ vk _ => 4 - (intOf vk).toNat)
                    case atStart =>
                      refine ⟨0, vs, by simp, rfl, by decide, hrs, .inr ⟨Nat.zero_le _, rfl⟩⟩
                    case round =>
                      clear hrs
                      obtain ⟨j, vs2, rfl, rfl, hj, hrs2, hcj⟩ := hrel
                      obtain ⟨fd, hfd⟩ : ∃ fd, fd = decide (ki < j) := ⟨_, rfl⟩
                      rw [← hfd]
                      by_cases hj4 : j < 4
                      · have d4 : decide ((j : Int) < 4) = true := by simp; omega
                        have HWD := Lib.hid (fun w => rwords_any w)
                        have HRA := Lib.hid (fun o => hrs2.out.alloc o)
                        have j4 : (j : Int) < 4 := by omega
                        have j0 : (0 : Int) ≤ (j : Int) := by omega
                        obtain ⟨wb, hwb⟩ : ∃ wb : ByteArray, wb = ⟨(wrd j).toArray⟩ := ⟨_, rfl⟩
                        have HC : Hid (∀ w : World, (w.alloc (.cells wrdsC 9)).cell? ⟨w.heap.size, j, none⟩ = some (.string wb)) := fun w => by rw [hwb]; exact ((Blk.new w _ _).cell j).trans (wrdsC_get j hj4)
                        have hwbs : wb.size = (wrd j).length := by rw [hwb, ba_len]
                        have HWBS := Lib.hid hwbs
                        have HBJ := Lib.hid (HBW.out j hj4)
                        rw [← hwb] at HBJ
                        clear hwb hwbs
                        go_wp2_with fail
                        refine (HWD.out _).mono ?_
                        rintro e7 w7 ⟨rfl, rfl⟩
                        have HR7 := Lib.hid (HRA.out (.cells wrdsC 9))
                        have hc7 := HC.out wr
                        clear HRA HWD HC hrs2
                        generalize wr.alloc (.cells wrdsC 9) = w7 at *
                        generalize wr.heap.size = K7 at *
                        cases fd with
                        | true =>
                          have hkj : ki < j := of_decide_eq_true hfd.symm
                          have HCJ : Hid (lineP T.data.toList vs ms = some (vs2, ms)) := by
                            rcases hcj.out with ⟨-, h⟩ | ⟨h, -⟩
                            · exact h
                            · omega
                          clear hcj hfd
                          go_wp2_with fail
                          go_roundw
                          case rel => exact ⟨j + 1, vs2, by simp; omega, by go_num, by omega, HR7, .inl ⟨by omega, HCJ.out⟩⟩
                          case measure => simp [intOf]; omega
                        | false =>
                          have hkj : ¬ ki < j := of_decide_eq_false hfd.symm
                          have hvs : vs2 = vs := by
                            rcases hcj.out with ⟨h, -⟩ | ⟨-, h⟩
                            · omega
                            · exact h
                          subst hvs
                          clear hcj hfd
                          by_cases hjk : j = ki
                          · subst hjk
                            have hwl : wb.size ≤ T.size := by rw [HWBS.out]; exact HBL.out hj4
                            have i5 : (wb.size : Int) ≤ (T.size : Int) := by omega
                            obtain ⟨X, hX⟩ : ∃ X, T.extract wb.size T.size = X := ⟨_, rfl⟩
                            have HXL : Hid (X.data.toList = T.data.toList.drop (wrd j).length) := by show _ = _; rw [← hX, extract_list, List.take_of_length_le (by simp), HWBS.out]
                            have HXS : Hid (X.size ≤ maxLen) := by
                              have h1 := congrArg List.length HXL.out
                              rw [List.length_drop, ba_size, ba_size] at h1
                              have := HTS.out
                              show _ ≤ _; omega
                            have HRN := Lib.hid (fun w => rnumber_any X w HXS.out)
                            have HNL : Hid (numL T.data.toList = (numP X.data.toList).map fun n => (j, n)) := by show _ = _; rw [HXL.out]; exact HKL.out hj4
                            simp only [decide_true] at HBJ
                            go_wp2_with fail
                            refine (HBJ.out _).mono ?_
                            rintro e6 w6 ⟨rfl, rfl⟩
                            go_wp2_with fail
                            refine (HRN.out _).mono ?_
                            rintro e6 w6 ⟨nv, rfl, hnv, rfl⟩
                            have HNV := Lib.hid hnv
                            obtain ⟨bn, hbn⟩ : ∃ b, numB X.data.toList = b := ⟨_, rfl⟩
                            rw [hbn] at HNV ⊢
                            have HBN := Lib.hid hbn
                            clear hnv hbn
                            cases bn with
                            | false =>
                              have HN : Hid (R = none) := HBD2.out (HLB.out (by rw [HNL.out]; have h9 := HBN.out; unfold numB at h9; cases hnp : numP X.data.toList with | none => rfl | some n => rw [hnp] at h9; cases h9))
                              go_wp2_with (refine wpList_rset_same rfl 44 (.tmp 2) (.tmp 104) rfl rfl B hd60 (by rfl) (by rfl) 44 (by exact HR7.out.rd) hd60_inf hd60_one ?_)
                              refine bodyPost_ret (v := .tuple #[.agg hd60, .bool false]) (results_ct rfl _ _ B 44 hd60 (0, 0) _ _ rfl rfl HR7.out.rd Try.underlying44 rfl hd60_inf) rfl ⟨?_, by rw [HB.out]; exact HR7.out.be⟩
                              rw [HN.out]
                              exact ⟨0, 0, 0, 0, 0, _, rfl, rfl⟩
                            | true =>
                              have hNL : numL T.data.toList = some (j, nv) := by rw [HNL.out, HNV.out rfl]; rfl
                              have hfc : w7.cell? ⟨B + 1 + 1, j, none⟩ = some (.bool (vs2.getD j none).isSome) := (HR7.out.fo.cell j).trans (fouC_get vs2 j (by have := HR7.out.l4; omega))
                              have hvc : w7.cell? ⟨B + 1, j, none⟩ = some (.int .i64 ((vs2.getD j none).getD 0 : Nat)) := (HR7.out.va.cell j).trans (valC_get vs2 j (by have := HR7.out.l4; omega))
                              have hvf := HR7.out.va.frozen j
                              have hff := HR7.out.fo.frozen j
                              have HNLL := Lib.hid hNL
                              clear hNL
                              obtain ⟨sb, hsb⟩ : ∃ sb, sb = (vs2.getD j none).isSome := ⟨_, rfl⟩
                              rw [← hsb] at hfc
                              have HSB := Lib.hid hsb
                              clear hsb
                              cases sb with
                              | true =>
                                have HN : Hid (R = none) := HBD2.out (HLB2.out j nv HNLL.out HSB.out.symm)
                                go_wp2_with (refine wpList_rset_same rfl 44 (.tmp 2) (.tmp 104) rfl rfl B hd60 (by rfl) (by rfl) 44 (by exact HR7.out.rd) hd60_inf hd60_one ?_)
                                refine bodyPost_ret (v := .tuple #[.agg hd60, .bool false]) (results_ct rfl _ _ B 44 hd60 (0, 0) _ _ rfl rfl HR7.out.rd Try.underlying44 rfl hd60_inf) rfl ⟨?_, by rw [HB.out]; exact HR7.out.be⟩
                                rw [HN.out]
                                exact ⟨0, 0, 0, 0, 0, _, rfl, rfl⟩
                              | false =>
                                have HN : Hid (lineP T.data.toList vs2 ms = some (vs2.set j (some nv), ms)) := HLP.out j nv HNLL.out HSB.out.symm
                                have HRV := Lib.hid (HR7.out.setV j nv hj4)
                                go_wp2_with fail
                                refine ⟨⟨j + 1, _, by simp, by go_num, by omega, HRV, .inl ⟨by omega, HN.out⟩⟩, ?_⟩
                                simp [intOf]; omega
                          · have djk : decide (j = ki) = false := by simp [hjk]
                            rw [djk] at HBJ
                            go_wp2_with fail
                            refine (HBJ.out _).mono ?_
                            rintro e6 w6 ⟨rfl, rfl⟩
                            go_wp2_with fail
                            refine ⟨⟨j + 1, vs2, by simp; omega, by go_num, by omega, HR7, .inr ⟨by omega, rfl⟩⟩, ?_⟩
                            simp [intOf]; omega
                      · have hje : j = 4 := by omega
                        subst hje
                        have d4 : decide ((4 : Int) < 4) = false := by decide
                        cases fd with
                        | true =>
                          have hkj : ki < 4 := of_decide_eq_true hfd.symm
                          have HN : Hid (R = sevF (linesP (s.data.toList.drop (e + 1)) vs2 ms)) := by
                            rcases hcj.out with ⟨-, h⟩ | ⟨h, -⟩
                            · exact HST2.out _ _ h
                            · omega
                          clear hfd hcj
                          go_wp2_with fail
                          refine ⟨HME.out _ _ _ _ HN.out hrs2.out, ?_⟩
                          have := HE0.out; have := HMQ.out; simp [intOf]; omega
                        | false =>
                          have hkj : ki = 4 := by have := of_decide_eq_false hfd.symm; omega
                          have HN : Hid (R = none) := HBD2.out (HLB.out (HK4.out hkj))
                          clear hfd hcj
                          go_wp2_with (refine wpList_rset_same rfl 44 (.tmp 2) (.tmp 112) rfl rfl B hd60 (by rfl) (by rfl) 44 (by exact hrs2.out.rd) hd60_inf hd60_one ?_)
                          refine bodyPost_ret (v := .tuple #[.agg hd60, .bool false]) (results_ct rfl _ _ B 44 hd60 (0, 0) _ _ rfl rfl hrs2.out.rd Try.underlying44 rfl hd60_inf) rfl ⟨?_, by rw [HB.out]; exact hrs2.out.be⟩
                          rw [HN.out]
                          exact ⟨0, 0, 0, 0, 0, _, rfl, rfl⟩
        · have d10 : (((s[e]).toNat : Int) == 10) = false := by
            rw [Bool.eq_false_iff]; intro h; exact h10 ((byte_eqI s[e] 10 (by decide)).1 h)
          go_wp2_with fail
          go_round
          case rel =>
            refine ⟨e + 1, by go_num, by omega, by omega, fun j hj h1 h2 => ?_⟩
            by_cases hje : j = e
            · subst hje; exact h10
            · exact hne.out j hj h1 (by omega)
          case measure => simp [intOf]; omega
      · have hcle : decide ((e : Int) < (s.size : Int)) = false := by simp; omega
        have hee : e = s.size := by omega
        have HFND : Hid (fnd 10 (s.data.toList.drop q) = e - q) := fnd_from 10 s q e hqe hes (fun j hj h1 h2 => hne.out j hj h1 h2) (fun h => absurd h hlt)
        have HN : Hid (R = none) := by
          show _ = _
          rcases hch.out with ⟨-, h0, -⟩ | ⟨-, h⟩
          · refine HF1.out.1 ?_
            have := HFND.out
            rw [h0, List.drop_zero] at this
            rw [this, HL.out]; omega
          · rw [h, linesP_none (by rw [HFND.out, List.length_drop, HL.out]; omega)]; rfl
        have e1 : ((e : Int) == (s.size : Int)) = true := by rw [hee]; simp
        go_wp2_with (refine wpList_rset_same rfl 44 (.tmp 2) (.tmp 40) rfl rfl B hd60 (by rfl) (by rfl) 44 (by exact hrs.out.rd) hd60_inf hd60_one ?_)
        refine bodyPost_ret (v := .tuple #[.agg hd60, .bool false]) (results_ct rfl _ _ B 44 hd60 (0, 0) _ _ rfl rfl hrs.out.rd Try.underlying44 rfl hd60_inf) rfl ⟨?_, by rw [HB.out]; exact hrs.out.be⟩
        rw [HN.out]
        exact ⟨0, 0, 0, 0, 0, _, rfl, rfl⟩
end Go.Proofs.Ytakkdgcmeeilbaa
