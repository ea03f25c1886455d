/-
  Walk: Zlib, in the program.
-/
import Derived.Test.YtppfjofaegbbjaaI15
import Derived.Test.YtppfjofaegbbjaaAdl
namespace Go.Proofs.Ytppfjofaegbbjaa
open Go.RowKit

/-- The first two bytes are no header. -/
def zHdr (c f : Nat) : Bool := decide (c % 16 ≠ 8) || decide (128 ≤ c) || decide ((256 * c + f) % 31 ≠ 0) || decide (f / 32 % 2 ≠ 0)
def be32 (l : List UInt8) : Nat := (l.getD 0 0).toNat * 16777216 + (l.getD 1 0).toNat * 65536 + (l.getD 2 0).toNat * 256 + (l.getD 3 0).toNat
/-- What is behind the stream decides. -/
def zliE (o rest : List UInt8) : Except Nat (List UInt8) :=
  if rest.length < 4 then .error 5 else if be32 rest ≠ adler o then .error 7 else if 4 < rest.length then .error 6 else .ok o
def zliP (most : Nat) (l : List UInt8) : Except Nat (List UInt8) :=
  if l.length < 2 then .error 5 else if zHdr (l.getD 0 0).toNat (l.getD 1 0).toNat then .error 4 else
  match infP most (l.drop 2) with
  | .error e => .error e
  | .ok (o, u) => zliE o (l.drop (2 + u))
theorem infP_used {most : Nat} {l o : List UInt8} {u : Nat} (h : infP most l = .ok (o, u)) : u ≤ l.length := by
  unfold infP at h
  split at h
  · cases h
  · cases h; omega
theorem infGo_len (most f : Nat) (out o : List UInt8) (b b' : List Bool) (ho : out.length ≤ most) (h : infGo most f out b = .ok (o, b')) : o.length ≤ most ∧ b'.length < b.length := by
  induction f generalizing out b with
  | zero => cases h
  | succ f ih =>
    unfold infGo at h
    split at h
    · cases h
    · rename_i hb
      have h1 := blkT_len ho hb
      split at h
      · cases h; exact ⟨h1.2, h1.1⟩
      · have := ih _ _ h1.2 h; omega
theorem infP_len {most : Nat} {l o : List UInt8} {u : Nat} (h : infP most l = .ok (o, u)) : o.length ≤ most := by
  unfold infP at h
  split at h
  · cases h
  · rename_i hb
    cases h
    exact (infGo_len _ _ _ _ _ _ (Nat.zero_le _) hb).1
theorem infGo_err (most f : Nat) (out : List UInt8) (b : List Bool) (k : Nat) (hf : b.length < f) (ho : out.length ≤ most) (h : infGo most f out b = .error k) : k ≠ 0 := by
  induction f generalizing out b with
  | zero => omega
  | succ f ih =>
    unfold infGo at h
    split at h
    · rename_i hb; cases h; exact blkT_err hb
    · rename_i hb
      have h1 := blkT_len ho hb
      split at h
      · cases h
      · exact ih _ _ (by omega) h1.2 h
theorem infP_err {most : Nat} {l : List UInt8} {k : Nat} (h : infP most l = .error k) : k ≠ 0 := by
  unfold infP at h
  split at h
  · rename_i hb
    cases h
    exact infGo_err _ _ _ _ _ (by rw [unp_length]; omega) (Nat.zero_le _) hb
  · cases h
theorem and32 (f : Nat) (h : f < 256) : bits .and .i64 (f : Int) 32 = ((f / 32 % 2 * 32 : Nat) : Int) := by
  have key : ∀ y : Fin 256, bits .and .i64 (y.val : Int) 32 = ((y.val / 32 % 2 * 32 : Nat) : Int) := by decide +kernel
  exact key ⟨f, h⟩
theorem or_nat32 (a b : Nat) (ha : a < 4294967296) (hb : b < 4294967296) : bits .or .u32 (a : Int) (b : Int) = ((a ||| b : Nat) : Int) := by
  have hx : a ||| b < 2 ^ 32 := Nat.or_lt_two_pow (by omega) (by omega)
  have h1 : ∀ a : Nat, a < 4294967296 → (BitVec.ofInt 32 (a : Int)).toNat = a := fun a ha => by
    rw [BitVec.ofInt_natCast, BitVec.toNat_ofNat]; exact Nat.mod_eq_of_lt (by omega)
  show IntKind.u32.wrap ((BitVec.ofInt 32 (a : Int) ||| BitVec.ofInt 32 (b : Int)).toNat : Int) = _
  rw [BitVec.toNat_or, h1 a ha, h1 b hb, IntKind.wrap_u32]
  omega
theorem or_hi32 (a b k : Nat) (hb : b < 2 ^ k) (ha : a * 2 ^ k < 4294967296) (hb2 : b < 4294967296) : bits .or .u32 ((a * 2 ^ k : Nat) : Int) (b : Int) = ((a * 2 ^ k + b : Nat) : Int) := by
  rw [or_nat32 _ _ ha hb2, Nat.mul_comm, Nat.two_pow_add_eq_or_of_lt hb]
theorem or_be (r0 r1 r2 r3 : Nat) (h0 : r0 < 256) (h1 : r1 < 256) (h2 : r2 < 256) (h3 : r3 < 256) :
    bits .or .u32 (bits .or .u32 (bits .or .u32 ((r0 : Int) * 16777216) ((r1 : Int) * 65536)) ((r2 : Int) * 256)) (r3 : Int) = ((r0 * 16777216 + r1 * 65536 + r2 * 256 + r3 : Nat) : Int) := by
  have e1 : (r0 : Int) * 16777216 = ((r0 * 2 ^ 24 : Nat) : Int) := by simp
  have e2 : (r1 : Int) * 65536 = ((r1 * 65536 : Nat) : Int) := by simp
  have e3 : (r2 : Int) * 256 = ((r2 * 256 : Nat) : Int) := by simp
  have p24 : (2 : Nat) ^ 24 = 16777216 := by decide
  have p16 : (2 : Nat) ^ 16 = 65536 := by decide
  have p8 : (2 : Nat) ^ 8 = 256 := by decide
  rw [e1, e2, or_hi32 r0 (r1 * 65536) 24 (by omega) (by omega) (by omega)]
  rw [show r0 * 2 ^ 24 + r1 * 65536 = (r0 * 256 + r1) * 2 ^ 16 from by omega, e3, or_hi32 (r0 * 256 + r1) (r2 * 256) 16 (by omega) (by omega) (by omega)]
  rw [show (r0 * 256 + r1) * 2 ^ 16 + r2 * 256 = (r0 * 65536 + r1 * 256 + r2) * 2 ^ 8 from by omega, or_hi32 _ r3 8 (by omega) (by omega) (by omega), show (r0 * 65536 + r1 * 256 + r2) * 2 ^ 8 + r3 = r0 * 16777216 + r1 * 65536 + r2 * 256 + r3 from by omega]
def ZlOk (r : Except Nat (List UInt8)) (e : Ending) : Prop :=
  match r with
  | .error k => e = .returned (.tuple #[.string ⟨#[]⟩, .int .i64 k])
  | .ok o => e = .returned (.tuple #[.string ⟨o.toArray⟩, .int .i64 0])

set_option maxRecDepth 100000 in
set_option maxHeartbeats 8000000 in
theorem izlib_any (s : ByteArray) (m : Int) (w : World) (hs : s.size ≤ 1000000000000000) :
    Calls Try.prog 26 #[.string s, .int .i64 m] w fun e w' => ZlOk (zliP (mostN m) s.data.toList) e ∧ Below w.heap.size w w' := by
  have hsl : s.data.toList.length = s.size := by simp
  have hP : zliP (mostN m) s.data.toList = if s.size < 2 then .error 5 else if zHdr (s.data.toList.getD 0 0).toNat (s.data.toList.getD 1 0).toNat then .error 4 else
    match infP (mostN m) (s.data.toList.drop 2) with
    | .error e => .error e
    | .ok (o, u) => zliE o (s.data.toList.drop (2 + u)) := by rw [← hsl]; rfl
  clear hsl
  by_cases h2 : s.size < 2
  · rw [if_pos h2] at hP
    have HE := Lib.hid hP
    have d1 : decide ((s.size : Int) < 2) = true := by simp; omega
    clear hP
    go_enter Try.func26, Try.ntmps26
    go_wp2_with fail
    go_ret2
    refine ⟨?_, Below.refl _ _⟩
    rw [HE.out]; rfl
  rw [if_neg h2] at hP
  have d1 : decide ((s.size : Int) < 2) = false := by simp; omega
  have hs0 : 0 < s.size := by omega
  have hs1 : 1 < s.size := by omega
  have g0 := byte_at s 0 hs0
  have g1 := byte_at s 1 hs1
  rw [← g0, ← g1] at hP
  clear g0 g1
  have z0 : (0 : Int) < (s.size : Int) := by omega
  have z1 : (1 : Int) < (s.size : Int) := by omega
  have lc := (s[0]).toNat_lt
  have lf := (s[1]).toNat_lt
  have HP := Lib.hid hP
  clear hP h2
  go_enter Try.func26, Try.ntmps26
  go_wp2_with fail
  go_quiet (fail)
  revert nq; intro na
  generalize (s[0]).toNat = c at *
  generalize (s[1]).toNat = f at *
  go_upto_region 4 with fail
  have hb0 : Below w.heap.size w (w.drewN na) := below_drewN (Below.refl _ _) na
  generalize w.drewN na = w1 at hb0 ⊢
  obtain ⟨A, hA⟩ : ∃ A, A = c % 16 := ⟨_, rfl⟩
  obtain ⟨E, hE⟩ : ∃ E, E = (256 * c + f) % 31 := ⟨_, rfl⟩
  obtain ⟨G, hG⟩ : ∃ G, G = f / 32 % 2 * 32 := ⟨_, rfl⟩
  have a1 : (c : Int) % 16 = (A : Int) := by omega
  have a3 : (256 * (c : Int) + (f : Int)) % 31 = (E : Int) := by omega
  have a5 : bits .and .i64 (f : Int) 32 = (G : Int) := by rw [and32 f lf, hG]
  have HH : Hid (zHdr c f = (decide (A ≠ 8) || decide (128 ≤ c) || decide (E ≠ 0) || decide (G ≠ 0))) := by
    show _ = _
    unfold zHdr
    rw [← hA, ← hE]
    congr 1
    have : (f / 32 % 2 ≠ 0) = (G ≠ 0) := by apply propext; omega
    simp only [this]
  clear hA hE hG
  by_cases c1 : A = 8
  · have d2 : ((A : Int) != 8) = false := by simp; omega
    by_cases c2 : 128 ≤ c
    · have d3 : decide ((128 : Int) ≤ (c : Int)) = true := by simp; omega
      have HE : Hid (zliP (mostN m) s.data.toList = .error 4) := by show _ = _; rw [HP.out, HH.out, if_pos (by simp [c2])]
      clear HP HH
      go_wp2_with fail
      go_ret2
      refine ⟨?_, hb0⟩
      rw [HE.out]; rfl
    have d3 : decide ((128 : Int) ≤ (c : Int)) = false := by simp; omega
    by_cases c3 : E = 0
    · have d4 : ((E : Int) != 0) = false := by simp; omega
      by_cases c4 : G = 0
      · have d5 : ((G : Int) != 0) = false := by simp; omega
        have HP2 : Hid (zliP (mostN m) s.data.toList = match infP (mostN m) (s.data.toList.drop 2) with
            | .error e => .error e
            | .ok (o, u) => zliE o (s.data.toList.drop (2 + u))) := by show _ = _; rw [HP.out, HH.out, if_neg (by simp [c1, c2, c3, c4])]
        clear HP HH c1 c2 c3 c4
        go_wp2_with fail
        clear d2 d3 d4 d5 a1 a3 a5 z0 z1
        have hex : (s.extract 2 s.size).data.toList = s.data.toList.drop 2 := by rw [extract_list, List.take_of_length_le (by simp)]
        have hexs : (s.extract 2 s.size).size ≤ 1000000000000000 := by rw [ByteArray.size_extract]; omega
        refine (inflate_any (s.extract 2 s.size) m _ hexs).mono ?_
        rintro e w2 ⟨hok, hb2⟩
        rw [hex] at hok
        have hbb : Below w.heap.size w w2 := bthen hb0 hb2
        have hP2 := HP2.out
        clear HP2 hex hexs hb0 hb2
        cases hi : infP (mostN m) (s.data.toList.drop 2) with
        | error k =>
          rw [hi] at hok hP2
          obtain rfl := hok
          have HE : Hid (zliP (mostN m) s.data.toList = .error k) := hP2
          have hk : k ≠ 0 := infP_err hi
          have hk1 : ((k : Int) != 0) = true := by simp; omega
          clear hP2 hi
          go_wp2_with fail
          go_ret2
          refine ⟨?_, hbb⟩
          rw [HE.out]; rfl
        | ok ou =>
          obtain ⟨o, u⟩ := ou
          have hu := infP_used hi
          have hol := infP_len hi
          have hM := mostN_le m
          rw [hi] at hok hP2
          obtain rfl := hok
          simp only at hP2
          rw [List.length_drop] at hu
          have hu2 : 2 + u ≤ s.size := by have : s.data.toList.length = s.size := by simp
                                          omega
          obtain ⟨K, hK⟩ : ∃ K, K = 2 + u := ⟨_, rfl⟩
          rw [← hK] at hP2 hu2
          have hRl : (s.extract K s.size).data.toList = s.data.toList.drop K := by rw [extract_list, List.take_of_length_le (by simp)]
          rw [← hRl] at hP2
          have hRs : (s.extract K s.size).size = s.size - K := by rw [ByteArray.size_extract]; omega
          have e1 : 2 + (u : Int) = (K : Int) := by omega
          have e2 : IntKind.i64.wrap (2 + (u : Int)) = (K : Int) := by rw [IntKind.wrap_i64]; omega
          have e3 : (K : Int) ≤ (s.size : Int) := by omega
          have e4 : (0 : Int) ≤ (K : Int) := by omega
          obtain ⟨R, hR⟩ : ∃ R, s.extract K s.size = R := ⟨_, rfl⟩
          rw [hR] at hP2 hRs
          have HR := Lib.hid hR
          have hRb : R.size ≤ 1000000000000000 := by omega
          have HRS := Lib.hid hRs
          have HP3 := Lib.hid hP2
          have HK := Lib.hid hK
          clear hP2 hi hRl hR hK hRs
          go_upto_region 10 with fail
          rw [HR.out]
          have hP3 := HP3.out
          clear HP3 e1 e2 e3 e4
          have hRn : R.data.toList.length = R.size := by simp
          unfold zliE at hP3
          rw [hRn] at hP3
          clear hRn
          by_cases h4 : R.size < 4
          · rw [if_pos h4] at hP3
            have HE := Lib.hid hP3
            have d2 : decide ((R.size : Int) < 4) = true := by simp; omega
            clear hP3
            go_wp2_with fail
            go_ret2
            refine ⟨?_, hbb⟩
            rw [HE.out]; rfl
          rw [if_neg h4] at hP3
          have d2 : decide ((R.size : Int) < 4) = false := by simp; omega
          have n0 : 0 < R.size := by omega
          have n1 : 1 < R.size := by omega
          have n2 : 2 < R.size := by omega
          have n3 : 3 < R.size := by omega
          have hbe : be32 R.data.toList = (R[0]).toNat * 16777216 + (R[1]).toNat * 65536 + (R[2]).toNat * 256 + (R[3]).toNat := by
            unfold be32
            rw [byte_at R 0 n0, byte_at R 1 n1, byte_at R 2 n2, byte_at R 3 n3]
          rw [hbe] at hP3
          clear hbe
          have l0 := (R[0]).toNat_lt
          have l1 := (R[1]).toNat_lt
          have l2 := (R[2]).toNat_lt
          have l3 := (R[3]).toNat_lt
          have y0 : (0 : Int) < (R.size : Int) := by omega
          have y1 : (1 : Int) < (R.size : Int) := by omega
          have y2 : (2 : Int) < (R.size : Int) := by omega
          have y3 : (3 : Int) < (R.size : Int) := by omega
          have HP3 := Lib.hid hP3
          clear hP3
          go_wp2_with fail
          go_quiet (fail)
          generalize (R[0]).toNat = r0 at *
          generalize (R[1]).toNat = r1 at *
          generalize (R[2]).toNat = r2 at *
          generalize (R[3]).toNat = r3 at *
          go_upto_region 13 with fail
          have hor := or_be r0 r1 r2 r3 l0 l1 l2 l3
          rw [hor]
          have hbb2 : Below w.heap.size w (w2.drewN nq) := below_drewN hbb nq
          generalize w2.drewN nq = w3 at hbb2 ⊢
          obtain ⟨V, hV⟩ : ∃ V, r0 * 16777216 + r1 * 65536 + r2 * 256 + r3 = V := ⟨_, rfl⟩
          rw [hV] at HP3 ⊢
          have hVb : V < 4294967296 := by omega
          have hP3 := HP3.out
          clear HP3 hor hV hbb l0 l1 l2 l3 y0 y1 y2 y3
          have hos : (⟨o.toArray⟩ : ByteArray).size ≤ maxLen := by unfold maxLen; show o.toArray.size ≤ _; simp; omega
          have hca := adler_any ⟨o.toArray⟩ w3 hos
          rw [show (⟨o.toArray⟩ : ByteArray).data.toList = o from by simp] at hca
          have HCA := Lib.hid hca
          clear hca hos
          obtain ⟨q, hq⟩ : ∃ q, adler o = q := ⟨_, rfl⟩
          rw [hq] at HCA hP3
          have HP3 := Lib.hid hP3
          clear hP3 hq
          obtain ⟨ob, hob⟩ : ∃ ob, (⟨o.toArray⟩ : ByteArray) = ob := ⟨_, rfl⟩
          have HOB : Hid (Value.string ob = .string ⟨o.toArray⟩) := by show _ = _; rw [hob]
          rw [hob] at HCA ⊢
          clear hob
          go_wp2_with fail
          refine HCA.out.mono ?_
          rintro e w4 ⟨rfl, rfl⟩
          clear HCA
          have hP3 := HP3.out
          clear HP3
          by_cases hne : V = q
          · rw [if_neg (by omega)] at hP3
            have d3 : ((V : Int) != (q : Int)) = false := by simp; omega
            by_cases h5 : 4 < R.size
            · rw [if_pos h5] at hP3
              have HE := Lib.hid hP3
              have d4 : decide ((4 : Int) < (R.size : Int)) = true := by simp; omega
              clear hP3 hne
              go_wp2_with fail
              go_ret2
              refine ⟨?_, hbb2⟩
              rw [HE.out]; rfl
            · rw [if_neg h5] at hP3
              have HE := Lib.hid hP3
              have d4 : decide ((4 : Int) < (R.size : Int)) = false := by simp; omega
              clear hP3 hne
              go_wp2_with fail
              go_ret2
              refine ⟨?_, hbb2⟩
              rw [HE.out]
              show Ending.returned (.tuple #[.string ob, .int .i64 0]) = _
              rw [HOB.out]
          · rw [if_pos hne] at hP3
            have HE := Lib.hid hP3
            have d3 : ((V : Int) != (q : Int)) = true := by simp; omega
            clear hP3 hne
            go_wp2_with fail
            go_ret2
            refine ⟨?_, hbb2⟩
            rw [HE.out]; rfl
      · have d5 : ((G : Int) != 0) = true := by simp; omega
        have HE : Hid (zliP (mostN m) s.data.toList = .error 4) := by show _ = _; rw [HP.out, HH.out, if_pos (by simp [c4])]
        clear HP HH
        go_wp2_with fail
        go_ret2
        refine ⟨?_, hb0⟩
        rw [HE.out]; rfl
    · have d4 : ((E : Int) != 0) = true := by simp; omega
      have HE : Hid (zliP (mostN m) s.data.toList = .error 4) := by show _ = _; rw [HP.out, HH.out, if_pos (by simp [c3])]
      clear HP HH
      go_wp2_with fail
      go_ret2
      refine ⟨?_, hb0⟩
      rw [HE.out]; rfl
  · have d2 : ((A : Int) != 8) = true := by simp; omega
    have HE : Hid (zliP (mostN m) s.data.toList = .error 4) := by show _ = _; rw [HP.out, HH.out, if_pos (by simp [c1])]
    clear HP HH
    go_wp2_with fail
    go_ret2
    refine ⟨?_, hb0⟩
    rw [HE.out]; rfl
end Go.Proofs.Ytppfjofaegbbjaa
