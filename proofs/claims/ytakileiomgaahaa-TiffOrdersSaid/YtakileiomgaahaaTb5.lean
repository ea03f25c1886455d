/-
  Plain: a file of one row of gray samples, in both orders of bytes.
-/
import Derived.Test.YtakileiomgaahaaTb4
namespace Go.Proofs.Ytakileiomgaahaa
open Go.RowKit

/-- A short number, filled to four bytes. -/
def shortE (big : Bool) (v : Nat) : List UInt8 := litE big v 2 ++ [0, 0]
def grayE (big : Bool) (l : List Nat) : List UInt8 :=
  headE big 7 ++ tagE big 256 3 1 (shortE big l.length) ++ tagE big 257 3 1 (shortE big 1) ++ tagE big 258 3 1 (shortE big 16) ++ tagE big 262 3 1 (shortE big 1) ++ tagE big 273 4 1 (litE big 94 4) ++ tagE big 277 3 1 (shortE big 1) ++ tagE big 279 4 1 (litE big (2 * l.length) 4) ++ l.flatMap fun v => litE big v 2
theorem tagE_len (big : Bool) (id ty cnt : Nat) (vb : List UInt8) : (tagE big id ty cnt vb).length = 8 + vb.length := by unfold tagE; simp [litE_len]; omega
theorem shortE_len (big : Bool) (v : Nat) : (shortE big v).length = 4 := by unfold shortE; simp [litE_len]
theorem flat2_len (big : Bool) (l : List Nat) : (l.flatMap fun v => litE big v 2).length = 2 * l.length := by
  induction l with
  | nil => rfl
  | cons a l ih => rw [List.flatMap_cons, List.length_append, ih, litE_len, List.length_cons]; omega
def grayL (n : Nat) : List Tg := [⟨256, 3, [n], []⟩, ⟨257, 3, [1], []⟩, ⟨258, 3, [16], []⟩, ⟨262, 3, [1], []⟩, ⟨273, 4, [94], []⟩, ⟨277, 3, [1], []⟩, ⟨279, 4, [2 * n], []⟩]
theorem grayE_len (big : Bool) (l : List Nat) : (grayE big l).length = 94 + 2 * l.length := by
  unfold grayE
  simp only [List.length_append, headE_len, tagE_len, shortE_len, litE_len, flat2_len]
theorem gray_tags (big : Bool) (l : List Nat) (hl : l.length ≤ 256) : tagsP (grayE big l) = .ok (grayL l.length) ∧ At (grayE big l) 94 (l.flatMap fun v => litE big v 2) ∧ bigP (grayE big l) = big := by
  have h := At.self (grayE big l)
  have hlen := grayE_len big l
  generalize hs : grayE big l = s at h hlen ⊢
  have h : At s 0 (grayE big l) := by rw [hs]; exact h
  unfold grayE at h
  have q : ∀ {x y : List UInt8} {n : Nat}, At s 0 (x ++ y) → x.length = n → At s n y := fun h hn => h.rightn hn (by omega)
  have aD := q h (n := 94) (by simp only [List.length_append, headE_len, tagE_len, shortE_len, litE_len])
  have t0 := h.left
  have b7 := q t0 (n := 82) (by simp only [List.length_append, headE_len, tagE_len, shortE_len, litE_len])
  have b6 := q t0.left (n := 70) (by simp only [List.length_append, headE_len, tagE_len, shortE_len, litE_len])
  have b5 := q t0.left.left (n := 58) (by simp only [List.length_append, headE_len, tagE_len, shortE_len])
  have b4 := q t0.left.left.left (n := 46) (by simp only [List.length_append, headE_len, tagE_len, shortE_len])
  have b3 := q t0.left.left.left.left (n := 34) (by simp only [List.length_append, headE_len, tagE_len, shortE_len])
  have b2 := q t0.left.left.left.left.left (n := 22) (by simp only [List.length_append, headE_len, tagE_len, shortE_len])
  have b1 := q t0.left.left.left.left.left.left (n := 10) (headE_len _ _)
  have b0 := t0.left.left.left.left.left.left.left
  unfold shortE at b1 b2 b3 b4 b6
  have c1 := tagP_short b1 (by decide) (by omega)
  have c2 := tagP_short b2 (by decide) (by decide)
  have c3 := tagP_short b3 (by decide) (by decide)
  have c4 := tagP_short b4 (by decide) (by decide)
  have c5 := tagP_long b5 (by decide) (by decide)
  have c6 := tagP_short b6 (by decide) (by decide)
  have c7 := tagP_long b7 (by decide) (by omega)
  refine ⟨?_, aD, ?_⟩
  · rw [tagsP_head b0 (by decide) (by omega), tagsG_step c1 (by simp only; omega), tagsG_step c2 (by simp only; omega), tagsG_step c3 (by simp only; omega), tagsG_step c4 (by simp only; omega), tagsG_step c5 (by simp only; omega), tagsG_step c6 (by simp only; omega), tagsG_step c7 (by simp only; omega), tagsG]
    rfl
  · unfold headE at b0
    have h2 : s.take 2 = (if big then [77, 77] else [73, 73]) := by
      have := b0.left.left.left
      unfold At at this
      cases big <;> exact this
    unfold bigP
    rw [h2]
    cases big <;> decide
theorem decT_gray (big : Bool) (l : List Nat) (h1 : 1 ≤ l.length) (hl : l.length ≤ 256) (hv : ∀ x ∈ l, x < 65536) : decT (grayE big l) = .ok (l.length, 1, l.map (fun (v : Nat) => (((v : Int), (v : Int), (v : Int), (65535 : Int)) : Px)), []) := by
  obtain ⟨ht, hat_, hb⟩ := gray_tags big l hl
  have hlen := grayE_len big l
  have hfl := flat2_len big l
  generalize grayE big l = s at *
  obtain ⟨n, hn⟩ : ∃ n, l.length = n := ⟨_, rfl⟩
  rw [hn] at ht hlen hfl h1 hl ⊢
  obtain ⟨D, hD⟩ : ∃ D, (l.flatMap fun v => litE big v 2) = D := ⟨_, rfl⟩
  rw [hD] at hat_ hfl
  have hnone : noneT (grayL n) = false := rfl
  have hkind : kindP (grayL n) = true := rfl
  have f256 : firstN (grayL n) 256 0 = n := rfl
  have f257 : firstN (grayL n) 257 0 = 1 := rfl
  have f258 : firstN (grayL n) 258 0 = 16 := rfl
  have f277 : firstN (grayL n) 277 0 = 1 := rfl
  have hsize : sizeP (grayL n) = true := by
    unfold sizeP
    have f278 : firstN (grayL n) 278 1 = 1 := rfl
    rw [f257, f256, f278, if_neg (by omega), if_neg (by omega)]
    rfl
  have hhd : hdT (grayL n) big = ⟨n, 1, 2, 1, 1, 0, 1, false, big⟩ := by
    show (⟨n, 1, 16 / 8, 1, 1, 0, 1, (1 : Nat) == 32773, big⟩ : Hd) = _
    rfl
  have hneed : needN (hdT (grayL n) big) 0 = 2 * n := by
    rw [hhd]
    unfold needN
    simp only [Nat.sub_zero, Nat.min_self, Nat.one_mul, Nat.mul_one]
    exact Nat.mul_comm n 2
  have hstrip : stripP (hdT (grayL n) big) s 0 94 (2 * n) = .ok D := by
    unfold stripP
    rw [if_neg (by omega)]
    have e : (s.drop 94).take (2 * n) = D := by unfold At at hat_; rwa [hfl] at hat_
    rw [e]
    have e2 : unpK (hdT (grayL n) big) 0 D = .ok D := rfl
    rw [e2]
    simp only [hneed]
    rw [if_neg (by omega), if_neg (by omega)]
  have hg : stripsG (hdT (grayL n) big) s (valsT (grayL n) 273) (valsT (grayL n) 279) (valsT (grayL n) 273).length 0 [] = .ok D := by
    show stripsG (hdT (grayL n) big) s [94] [2 * n] 1 0 [] = _
    unfold stripsG
    have e1 : ([94] : List Nat).getD 0 0 = 94 := rfl
    have e2 : ([2 * n] : List Nat).getD 0 0 = 2 * n := rfl
    rw [e1, e2, hstrip]
    simp only [stripsG, List.nil_append]
  unfold decT
  rw [ht]
  simp only [hnone, hkind, hsize, Bool.false_eq_true, Bool.true_eq_false, if_false, hb]
  rw [hg, f256, f257, f277, f258]
  simp only
  congr 1
  congr 1
  congr 1
  have hm : metT (grayL n) = [] := rfl
  rw [hm]
  congr 1
  apply List.ext_getElem
  · simp [hn]
  · intro k h1 h2
    have hk : k < l.length := by simpa using h2
    rw [List.getElem_map, List.getElem_map, List.getElem_range, ← hD]
    have e := flat_chunk (fun v => litE big v 2) (1 * (16 / 8)) l k hk (fun v _ => by rw [litE_len])
    rw [e, hhd]
    have hvk := hv _ (List.getElem_mem hk)
    generalize l[k] = v at hvk ⊢
    have hs : smpN ⟨n, 1, 2, 1, 1, 0, 1, false, big⟩ (litE big v 2) 0 = v := by
      show nAt big (litE big v 2) (0 * 2) 2 = v
      exact (At.self _).num hvk
    unfold pixP
    rw [if_pos rfl, hs]
    rfl
end Go.Proofs.Ytakileiomgaahaa
