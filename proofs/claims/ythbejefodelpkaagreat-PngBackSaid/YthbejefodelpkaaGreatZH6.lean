/-
  Plain: what is encoded is decoded.
-/
import Derived.Test.YthbejefodelpkaaGreatZH5
import Derived.Test.YthbejefodelpkaaGreatZH
namespace Go.Proofs.YthbejefodelpkaaGreat
open Go.RowKit
set_option maxRecDepth 100000

/-- What a file holds of a pixel. -/
def cvP (d : Nat) (p : Px) : Px :=
  if d = 16 then p else if to8I p.2.2.2 = 0 then (0, 0, 0, 0) else (from8I (to8I p.1), from8I (to8I p.2.1), from8I (to8I p.2.2.1), from8I (to8I p.2.2.2))
theorem flat_at {α β : Type} (f : α → List β) (k : Nat) (m : List α) (h : ∀ a ∈ m, (f a).length = k) (x : Nat) (hx : x < m.length) : ((m.flatMap f).take ((x + 1) * k)).drop (x * k) = f m[x] := by
  have hlen : ∀ l : List α, (∀ a ∈ l, (f a).length = k) → (l.flatMap f).length = l.length * k := by
    intro l
    induction l with
    | nil => intro _; simp
    | cons a r ih =>
      intro h
      rw [List.flatMap_cons, List.length_append, ih (fun b hb => h b (List.mem_cons_of_mem _ hb)), h a List.mem_cons_self, List.length_cons, Nat.add_mul]
      omega
  have hs : m.flatMap f = (m.take x).flatMap f ++ (f m[x] ++ (m.drop (x + 1)).flatMap f) := by
    conv => lhs; rw [← List.take_append_drop x m, List.drop_eq_getElem_cons hx]
    rw [List.flatMap_append, List.flatMap_cons]
  have hA : ((m.take x).flatMap f).length = x * k := by
    rw [hlen _ (fun a ha => h a (List.mem_of_mem_take ha)), List.length_take, Nat.min_eq_left (by omega)]
  have hk : (f m[x]).length = k := h _ (List.getElem_mem hx)
  rw [Nat.add_mul, Nat.one_mul, ← List.take_drop, hs, List.drop_left' hA, List.take_left' hk]
theorem sm2 (n : Nat) (h : n ≤ 65535) : beP [UInt8.ofNat (n / 256), UInt8.ofNat (n % 256)] = n := by
  unfold beP
  simp only [List.foldl_cons, List.foldl_nil, UInt8.toNat_ofNat']
  omega
theorem sm1 (n : Nat) (h : n ≤ 255) : beP [UInt8.ofNat n] = n := by
  unfold beP
  simp only [List.foldl_cons, List.foldl_nil, UInt8.toNat_ofNat']
  omega
theorem dir16 (p : Px) (hv : valP p = true) : dirP (pxB 16 p) 4 2 = cvP 16 p := by
  obtain ⟨a, b, c, e⟩ := p
  obtain ⟨n0, e0, h0⟩ := valP_at _ hv 0
  obtain ⟨n1, e1, h1⟩ := valP_at _ hv 1
  obtain ⟨n2, e2, h2⟩ := valP_at _ hv 2
  obtain ⟨n3, e3, h3⟩ := valP_at _ hv 3
  have e0 : a = (n0 : Int) := e0
  have e1 : b = (n1 : Int) := e1
  have e2 : c = (n2 : Int) := e2
  have e3 : e = (n3 : Int) := e3
  subst e0 e1 e2 e3
  have hL : pxB 16 ((n0 : Int), (n1 : Int), (n2 : Int), (n3 : Int)) = [UInt8.ofNat (n0 / 256), UInt8.ofNat (n0 % 256), UInt8.ofNat (n1 / 256), UInt8.ofNat (n1 % 256), UInt8.ofNat (n2 / 256), UInt8.ofNat (n2 % 256), UInt8.ofNat (n3 / 256), UInt8.ofNat (n3 % 256)] := rfl
  rw [hL]
  show ((smN _ 2 0 : Int), (smN _ 2 1 : Int), (smN _ 2 2 : Int), (smN _ 2 3 : Int)) = _
  have r0 : smN [UInt8.ofNat (n0 / 256), UInt8.ofNat (n0 % 256), UInt8.ofNat (n1 / 256), UInt8.ofNat (n1 % 256), UInt8.ofNat (n2 / 256), UInt8.ofNat (n2 % 256), UInt8.ofNat (n3 / 256), UInt8.ofNat (n3 % 256)] 2 0 = n0 := sm2 n0 h0
  have r1 : smN [UInt8.ofNat (n0 / 256), UInt8.ofNat (n0 % 256), UInt8.ofNat (n1 / 256), UInt8.ofNat (n1 % 256), UInt8.ofNat (n2 / 256), UInt8.ofNat (n2 % 256), UInt8.ofNat (n3 / 256), UInt8.ofNat (n3 % 256)] 2 1 = n1 := sm2 n1 h1
  have r2 : smN [UInt8.ofNat (n0 / 256), UInt8.ofNat (n0 % 256), UInt8.ofNat (n1 / 256), UInt8.ofNat (n1 % 256), UInt8.ofNat (n2 / 256), UInt8.ofNat (n2 % 256), UInt8.ofNat (n3 / 256), UInt8.ofNat (n3 % 256)] 2 2 = n2 := sm2 n2 h2
  have r3 : smN [UInt8.ofNat (n0 / 256), UInt8.ofNat (n0 % 256), UInt8.ofNat (n1 / 256), UInt8.ofNat (n1 % 256), UInt8.ofNat (n2 / 256), UInt8.ofNat (n2 % 256), UInt8.ofNat (n3 / 256), UInt8.ofNat (n3 % 256)] 2 3 = n3 := sm2 n3 h3
  rw [r0, r1, r2, r3]
  rfl
theorem dir8 (p : Px) : dirP (pxB 8 p) 4 1 = cvP 8 p := by
  obtain ⟨a, b, c, e⟩ := p
  by_cases hz : to8I e = 0
  · have hL : pxB 8 (a, b, c, e) = [0, 0, 0, 0] := by unfold pxB; rw [if_neg (by decide), if_pos hz]
    have hR : cvP 8 (a, b, c, e) = (0, 0, 0, 0) := by unfold cvP; rw [if_neg (by decide), if_pos hz]
    rw [hL, hR]
    rfl
  · obtain ⟨n0, e0, h0⟩ := to8_nat a
    obtain ⟨n1, e1, h1⟩ := to8_nat b
    obtain ⟨n2, e2, h2⟩ := to8_nat c
    obtain ⟨n3, e3, h3⟩ := to8_nat e
    have hL : pxB 8 (a, b, c, e) = [UInt8.ofNat n0, UInt8.ofNat n1, UInt8.ofNat n2, UInt8.ofNat n3] := by
      unfold pxB smB
      rw [if_neg (by decide), if_neg hz, if_neg (by decide), if_neg (by decide), if_neg (by decide), if_neg (by decide), e0, e1, e2, e3]
      rfl
    have hR : cvP 8 (a, b, c, e) = (from8I (n0 : Int), from8I (n1 : Int), from8I (n2 : Int), from8I (n3 : Int)) := by
      unfold cvP
      rw [if_neg (by decide), if_neg hz]
      simp only [e0, e1, e2, e3]
    rw [hL, hR]
    show (from8I (smN _ 1 0 : Nat), from8I (smN _ 1 1 : Nat), from8I (smN _ 1 2 : Nat), from8I (smN _ 1 3 : Nat)) = _
    have r0 : smN [UInt8.ofNat n0, UInt8.ofNat n1, UInt8.ofNat n2, UInt8.ofNat n3] 1 0 = n0 := sm1 n0 h0
    have r1 : smN [UInt8.ofNat n0, UInt8.ofNat n1, UInt8.ofNat n2, UInt8.ofNat n3] 1 1 = n1 := sm1 n1 h1
    have r2 : smN [UInt8.ofNat n0, UInt8.ofNat n1, UInt8.ofNat n2, UInt8.ofNat n3] 1 2 = n2 := sm1 n2 h2
    have r3 : smN [UInt8.ofNat n0, UInt8.ofNat n1, UInt8.ofNat n2, UInt8.ofNat n3] 1 3 = n3 := sm1 n3 h3
    rw [r0, r1, r2, r3]
theorem dir_back (d : Nat) (hd : d = 8 ∨ d = 16) (p : Px) (hv : valP p = true) : dirP (pxB d p) 4 (d / 8) = cvP d p := by
  rcases hd with rfl | rfl
  · exact dir8 p
  · exact dir16 p hv
theorem row_back (d : Nat) (hd : d = 8 ∨ d = 16) (m : List Px) (hv : ∀ p ∈ m, valP p = true) : ∀ x, x ≤ m.length → rowG 6 (d / 8) [] [] (m.flatMap (pxB d)) x = some ((m.take x).map (cvP d)) := by
  intro x
  induction x with
  | zero => intro _; rfl
  | succ x ih =>
    intro h
    unfold rowG
    rw [ih (by omega)]
    simp only
    have hb : chanP 6 * (d / 8) = d / 2 := by rcases hd with rfl | rfl <;> rfl
    have hp : pixG 6 (d / 8) [] [] (m.flatMap (pxB d)) x = some (cvP d (m[x]'(by omega))) := by
      unfold pixG
      rw [hb, flat_at (pxB d) (d / 2) m (fun a _ => pxB_size d hd a) x (by omega)]
      simp only
      rw [if_pos (by decide)]
      exact congrArg some (dir_back d hd _ (hv _ (List.getElem_mem _)))
    rw [hp]
    simp only
    rw [List.take_succ_eq_append_getElem (by omega), List.map_append]
    rfl
theorem pic_back (W H d : Nat) (hd : d = 8 ∨ d = 16) (px : List Px) (hp : px.length = W * H) (hv : ∀ p ∈ px, valP p = true) : ∀ y, y ≤ H → picG 6 (d / 8) W [] [] (linesP W H d px) y = some (abP W d px y, (px.take (y * W)).map (cvP d)) := by
  intro y
  induction y with
  | zero => intro _; simp [picG, abP]
  | succ y ih =>
    intro h
    have hb : chanP 6 * (d / 8) = d / 2 := by rcases hd with rfl | rfl <;> rfl
    have hyW : (y + 1) * W ≤ px.length := by rw [hp, Nat.mul_comm W H]; exact Nat.mul_le_mul_right W h
    unfold picG
    rw [ih (by omega)]
    simp only
    have hln := lnP_size W H d hd px hp y (by omega)
    have hline : ((linesP W H d px).take ((y + 1) * (1 + W * (d / 2)))).drop (y * (1 + W * (d / 2))) = lineB (d / 2) (lnP W d px y) (abP W d px y) := by
      have := flat_at (fun y => lineB (d / 2) (lnP W d px y) (abP W d px y)) (1 + W * (d / 2)) (List.range H) (fun a ha => by
        rw [lineB_len, lnP_size W H d hd px hp a (List.mem_range.1 ha)]; omega) y (by simp; omega)
      simpa [linesP] using this
    obtain ⟨hb1, hb2⟩ := bestN_len (d / 2) (lnP W d px y) (abP W d px y) 4
    have hbi := best_is (d / 2) (lnP W d px y) (abP W d px y) 4
    have hun : unG (chanP 6 * (d / 8)) (1 + W * (chanP 6 * (d / 8))) (linesP W H d px) (abP W d px y) y = some (lnP W d px y) := by
      unfold unG
      rw [hb, hline]
      simp only
      have hk : bt (lineB (d / 2) (lnP W d px y) (abP W d px y)) 0 = (bestN (d / 2) (lnP W d px y) (abP W d px y) 4).1 := by
        unfold lineB bt
        simp only [List.getD_cons_zero, UInt8.toNat_ofNat']
        omega
      have hr : (lineB (d / 2) (lnP W d px y) (abP W d px y)).drop 1 = filP ((bestN (d / 2) (lnP W d px y) (abP W d px y) 4).1 : Nat) (d / 2) (lnP W d px y) (abP W d px y) := hbi
      have hfl : (filP ((bestN (d / 2) (lnP W d px y) (abP W d px y) 4).1 : Nat) (d / 2) (lnP W d px y) (abP W d px y)).length = (lnP W d px y).length := filP_len _ _ _ _
      have hc := ab_chk W H d hd px hp y (by omega) (bestN (d / 2) (lnP W d px y) (abP W d px y) 4).1 hb2
      have hc2 : fchk ((bestN (d / 2) (lnP W d px y) (abP W d px y) 4).1 : Int) ((d / 2 : Nat) : Int) (filP ((bestN (d / 2) (lnP W d px y) (abP W d px y) 4).1 : Nat) (d / 2) (lnP W d px y) (abP W d px y)) (abP W d px y) = 0 := by
        unfold fchk at hc ⊢
        rw [hfl]
        exact hc
      rw [hk, hr, hc2, if_neg (by decide), unf_filP _ _ (by rcases hd with rfl | rfl <;> decide)]
    rw [hun]
    simp only
    have hm : ((px.drop (y * W)).take W).length = W := by
      rw [List.length_take, List.length_drop]
      rw [Nat.add_mul] at hyW
      omega
    have hrow := row_back d hd ((px.drop (y * W)).take W) (fun p h => hv p (List.mem_of_mem_drop (List.mem_of_mem_take h))) W (by omega)
    rw [List.take_of_length_le (i := W) (l := (px.drop (y * W)).take W) (Nat.le_of_eq hm)] at hrow
    have hrow2 : rowG 6 (d / 8) [] [] (lnP W d px y) W = some (((px.drop (y * W)).take W).map (cvP d)) := hrow
    rw [hrow2]
    simp only
    have hab : abP W d px (y + 1) = lnP W d px y := by unfold abP; rw [if_neg (by omega)]; rfl
    rw [hab, ← List.map_append, Nat.add_mul, Nat.one_mul, List.take_add]
/-! ### Metadata -/
theorem asc_pair {l : List Mt} (h : Asc l) : l.Pairwise ltM ∧ ∀ m ∈ l, isK m.1 = true ∧ isV m.2 = true := by
  induction l with
  | nil => exact ⟨List.Pairwise.nil, fun m hm => by cases hm⟩
  | cons m r ih =>
    obtain ⟨h1, h2, h3, h4⟩ := h
    obtain ⟨i1, i2⟩ := ih h4
    refine ⟨List.pairwise_cons.2 ⟨h3, i1⟩, fun x hx => ?_⟩
    rcases List.mem_cons.1 hx with rfl | hx
    · exact ⟨h1, h2⟩
    · exact i2 x hx
theorem entT_text (m : Mt) (hk : isK m.1 = true) (hv : isV m.2 = true) : entT (textP m) = some m := by
  obtain ⟨k, v⟩ := m
  simp only at hk hv
  have h0 : ∀ x ∈ k, x ≠ 0 := by
    intro x hx he
    subst he
    unfold isK okTxt at hk
    simp only [Bool.and_eq_true] at hk
    have := List.all_eq_true.1 hk.2 0 hx
    revert this
    decide
  have hf : fnd 0 (k ++ [0] ++ v) = k.length := by
    refine fnd_unique 0 _ k.length (by simp) (fun j hj hjk => ?_) (fun h => ?_)
    · have e : (k ++ [0] ++ v)[j] = k[j] := by simp [hjk]
      rw [e]
      exact h0 _ (List.getElem_mem _)
    · simp
  have ht : (k ++ [0] ++ v).take k.length = k := by rw [List.append_assoc]; exact List.take_left' rfl
  have hd : (k ++ [0] ++ v).drop (k.length + 1) = v := List.drop_left' (by simp)
  unfold entT textP
  simp only [hf, ht, hd]
  rw [if_pos]
  simp only [Bool.and_eq_true]
  exact ⟨⟨⟨by decide, by simp⟩, hk⟩, hv⟩
theorem ents_text (r : List Mt) : ∀ acc : List Mt, (acc ++ r).Pairwise ltM → (acc ++ r).length ≤ 16 → (∀ m ∈ r, isK m.1 = true ∧ isV m.2 = true) → (r.map textP).foldl addT acc = acc ++ r := by
  induction r with
  | nil => intro acc _ _ _; simp
  | cons m r ih =>
    intro acc hp hl hg
    rw [List.map_cons, List.foldl_cons]
    have hadd : addT acc (textP m) = acc ++ [m] := by
      unfold addT
      rw [entT_text m (hg m List.mem_cons_self).1 (hg m List.mem_cons_self).2]
      simp only
      rw [if_neg]
      rintro (h | h)
      · unfold anyK at h
        obtain ⟨x, hx, he⟩ := List.any_eq_true.1 h
        have hlt := (List.pairwise_append.1 hp).2.2 x hx m List.mem_cons_self
        have e : x.1 = m.1 := by simpa using he
        unfold ltM at hlt
        rw [e, less_irrefl] at hlt
        cases hlt
      · simp only [List.length_append, List.length_cons] at hl
        omega
    rw [hadd, ih (acc ++ [m]) (by simpa using hp) (by simpa using hl) (fun x hx => hg x (List.mem_cons_of_mem _ hx))]
    simp
theorem sortM_id {ms : List Mt} (hp : ms.Pairwise ltM) : sortM ms = ms := by
  have hd : DistK ms := hp.imp (fun {a b} h e => by unfold ltM at h; rw [e, less_irrefl] at h; cases h)
  obtain ⟨h1, h2⟩ := sortM_perm ms hd
  exact sorted_one _ _ h1 h2 hp
theorem ents_back (W H d : Nat) (px : List Px) (ms : List Mt) (hc : chkP ms = 0) : entsP (pngL W H d px ms) = ms := by
  have h16 : ms.length ≤ 16 := (chk_lens hc).1
  have hg : chkGo none ms = 0 := by
    unfold chkP at hc
    rwa [if_neg (by omega)] at hc
  obtain ⟨h1, h2⟩ := asc_pair ((chkGo_zero none ms).1 hg).1
  have e1 : ∀ acc x, addT acc ([73, 72, 68, 82], x) = acc := fun acc x => rfl
  have e2 : ∀ acc x, addT acc ([73, 68, 65, 84], x) = acc := fun acc x => rfl
  have e3 : ∀ acc x, addT acc (iendP, x) = acc := fun acc x => rfl
  have he : entG (pngL W H d px ms) = ms := by
    unfold entG pngL
    simp only [List.foldl_append, List.foldl_cons, List.foldl_nil, e1, e2, e3]
    rw [ents_text ms [] (by simpa using h1) (by simpa using h16) h2]
    rfl
  unfold entsP
  rw [he]
  exact sortM_id h1
/-! ### The chunks of a file -/
theorem names_of (W H d : Nat) (_px : List Px) (ms : List Mt) (k : List UInt8) (h1 : ([73, 72, 68, 82] == k) = false) (h2 : ([116, 69, 88, 116] == k) = false) : ∀ m ∈ [(([73, 72, 68, 82] : List UInt8), ihdrP W H d)] ++ ms.map textP, (m.1 == k) = false := by
  intro m hm
  rcases List.mem_append.1 hm with hm | hm
  · simp only [List.mem_singleton] at hm
    subst hm; exact h1
  · obtain ⟨x, -, rfl⟩ := List.mem_map.1 hm
    exact h2
theorem none_of (W H d : Nat) (px : List Px) (ms : List Mt) (k : List UInt8) (h1 : ([73, 72, 68, 82] == k) = false) (h2 : ([116, 69, 88, 116] == k) = false) (h3 : ([73, 68, 65, 84] == k) = false) (h4 : (iendP == k) = false) : ∀ m ∈ pngL W H d px ms, (m.1 == k) = false := by
  intro m hm
  unfold pngL at hm
  rcases List.mem_append.1 hm with hm | hm
  · exact names_of W H d px ms k h1 h2 m hm
  · simp only [List.mem_cons, List.not_mem_nil, or_false] at hm
    rcases hm with rfl | rfl
    · exact h3
    · exact h4
theorem cnt_none {l : List Mt} {k : List UInt8} (h : ∀ m ∈ l, (m.1 == k) = false) : cntP l k = 0 ∧ datP l k = [] := by
  constructor
  · unfold cntP
    rw [List.countP_eq_zero]
    intro m hm
    rw [h m hm]
    decide
  · unfold datP
    rw [List.filter_eq_nil_iff.2 (fun m hm => by rw [h m hm]; decide)]
    rfl
theorem idat_of (W H d : Nat) (px : List Px) (ms : List Mt) : cntP (pngL W H d px ms) idatN = 1 ∧ datP (pngL W H d px ms) idatN = dataP W H d px ∧ datOk (pngL W H d px ms) = true := by
  have hA := names_of W H d px ms idatN (by decide) (by decide)
  obtain ⟨A, hAe⟩ : ∃ A, A = [(([73, 72, 68, 82] : List UInt8), ihdrP W H d)] ++ ms.map textP := ⟨_, rfl⟩
  rw [← hAe] at hA
  have hl : pngL W H d px ms = A ++ [([73, 68, 65, 84], dataP W H d px), (iendP, [])] := by rw [hAe]; rfl
  obtain ⟨c0, d0⟩ := cnt_none hA
  have hc : cntP (pngL W H d px ms) idatN = 1 := by
    rw [hl]
    unfold cntP at c0 ⊢
    rw [List.countP_append, c0]
    rfl
  have hf : firP (pngL W H d px ms) idatN = A.length := by
    rw [hl]
    refine firP_hit _ _ A.length (by simp) (by simp; decide) (fun j hj hjA => ?_)
    rw [List.getElem_append_left hjA]
    exact hA _ (List.getElem_mem _)
  refine ⟨hc, ?_, ?_⟩
  · rw [hl]
    unfold datP at d0 ⊢
    rw [List.filter_append, List.flatMap_append, d0]
    show [] ++ (dataP W H d px ++ []) = _
    simp
  · unfold datOk
    rw [hc, hf, hl, List.drop_left' rfl]
    rfl
theorem wro_back (W H d : Nat) (px : List Px) (ms : List Mt) : wroP (pngL W H d px ms) 6 = false := by
  refine wroP_miss _ _ (fun k hk => ?_)
  have h := none_of W H d px ms plteN (by decide) (by decide) (by decide) (by decide) _ (List.getElem_mem hk)
  unfold wroAt
  rw [h]
  simp
theorem pal_back (W H d : Nat) (px : List Px) (ms : List Mt) : palP (pngL W H d px ms) 6 = true := by
  obtain ⟨h1, -⟩ := cnt_none (none_of W H d px ms plteN (by decide) (by decide) (by decide) (by decide))
  unfold palP
  rw [h1]
  simp [pal1, pal2, pal3]
theorem hdr_back (W H d : Nat) (px : List Px) (ms : List Mt) (hW : 1 ≤ W ∧ W ≤ 256) (hH : 1 ≤ H ∧ H ≤ 256) (hd : d = 8 ∨ d = 16) : hdrP (pngL W H d px ms) = .ok (W, H, d, 6) := by
  have hD : hdrD (pngL W H d px ms) = ihdrP W H d := rfl
  have h1 : ihdrOk (pngL W H d px ms) = true := by
    have e : pngL W H d px ms = ([73, 72, 68, 82], ihdrP W H d) :: (ms.map textP ++ [([73, 68, 65, 84], dataP W H d px), (iendP, [])]) := rfl
    rw [e]
    unfold ihdrOk
    rw [Bool.and_eq_true]
    refine ⟨rfl, List.all_eq_true.2 (fun m hm => ?_)⟩
    rcases List.mem_append.1 hm with hm | hm
    · obtain ⟨x, -, rfl⟩ := List.mem_map.1 hm
      rfl
    · simp only [List.mem_cons, List.not_mem_nil, or_false] at hm
      rcases hm with rfl | rfl <;> rfl
  have h2 : (pngL W H d px ms).all critOk = true := by
    refine List.all_eq_true.2 (fun m hm => ?_)
    unfold pngL at hm
    rcases List.mem_append.1 hm with hm | hm
    · rcases List.mem_append.1 hm with hm | hm
      · simp only [List.mem_singleton] at hm
        subst hm; rfl
      · obtain ⟨x, -, rfl⟩ := List.mem_map.1 hm
        rfl
    · simp only [List.mem_cons, List.not_mem_nil, or_false] at hm
      rcases hm with rfl | rfl <;> rfl
  have b8 : bt (ihdrP W H d) 8 = d := by
    show (UInt8.ofNat d).toNat = d
    rw [UInt8.toNat_ofNat']
    rcases hd with rfl | rfl <;> rfl
  have t4 : beP ((ihdrP W H d).take 4) = W := by
    show beP (be4 W) = W
    exact beP_be4 W (by omega)
  have t8 : beP (((ihdrP W H d).take 8).drop 4) = H := by
    show beP (be4 H) = H
    exact beP_be4 H (by omega)
  have b9 : bt (ihdrP W H d) 9 = 6 := rfl
  have b10 : bt (ihdrP W H d) 10 = 0 := rfl
  have b11 : bt (ihdrP W H d) 11 = 0 := rfl
  have b12 : bt (ihdrP W H d) 12 = 0 := rfl
  have l13 : (ihdrP W H d).length = 13 := rfl
  have hk : kindOk d 6 = true := by rcases hd with rfl | rfl <;> rfl
  unfold hdrP
  rw [hD, h1, h2, b8, b9, b10, b11, b12, t4, t8, hk, l13, if_neg (by decide), if_neg (by decide), if_neg (by omega), if_neg (by decide), if_neg (by decide), if_neg (by decide)]
theorem gencP_inv {W H : Int} {px : List Px} {D : Int} {ms : List Mt} {t : List UInt8} (h : gencP W H px D ms = .ok t) : ∃ w hh d : Nat, W = (w : Int) ∧ H = (hh : Int) ∧ D = (d : Int) ∧ (d = 8 ∨ d = 16) ∧ (1 ≤ w ∧ w ≤ 256) ∧ (1 ≤ hh ∧ hh ≤ 256) ∧ px.length = w * hh ∧ (∀ p ∈ px, valP p = true) ∧ chkP ms = 0 ∧ joinP (pngL w hh d px ms) = .ok t ∧ t.length ≤ 1048576 := by
  unfold gencP at h
  split at h; · cases h
  rename_i h1
  split at h; · cases h
  rename_i h2
  split at h; · cases h
  rename_i h3
  split at h; · cases h
  rename_i h4
  split at h; · cases h
  rename_i s hs
  split at h; · cases h
  rename_i h5
  cases h
  have h1' : rchk W H px = 0 := by omega
  obtain ⟨w, hh, rfl, rfl, hw, hhh, hl, hv⟩ := rchk_zero h1'
  have hz : ((w : Int) = 0 ↔ (hh : Int) = 0) := by
    unfold rchk at h1'
    split at h1'
    · cases h1'
    · split at h1'
      · rename_i h; exact h.1
      · cases h1'
  refine ⟨w, hh, D.toNat, rfl, rfl, by omega, by omega, by omega, by omega, hl, hv, by omega, ?_, by omega⟩
  simpa using hs
theorem dec_back {W H : Int} {px : List Px} {D : Int} {ms : List Mt} {t : List UInt8} (h : gencP W H px D ms = .ok t) : decP t = .ok (W.toNat, H.toNat, px.map (cvP D.toNat), ms) := by
  obtain ⟨w, hh, d, rfl, rfl, rfl, hd, hw, hhh, hl, hv, hc, hj, -⟩ := gencP_inv h
  have hck := chunks_join hj
  obtain ⟨i1, i2, i3⟩ := idat_of w hh d px ms
  have hb : chanP 6 * (d / 8) = d / 2 := by rcases hd with rfl | rfl <;> rfl
  have hll := lines_len w hh d hd px hl hh (Nat.le_refl _)
  have hW8 : w * (d / 2) ≤ 256 * 8 := Nat.mul_le_mul hw.2 (by rcases hd with rfl | rfl <;> decide)
  have hb2 : (linesP w hh d px).length ≤ 1048576 := by
    rw [hll]
    exact Nat.le_trans (Nat.mul_le_mul hhh.2 (by omega : w * (d / 2) + 1 ≤ 2049)) (by decide)
  have hz : zliP 1048576 (dataP w hh d px) = .ok (linesP w hh d px) := by
    unfold dataP
    rw [List.take_of_length_le hb2]
    exact zli_zlib _ _ hb2
  have hpl : (datP (pngL w hh d px ms) plteN) = [] := (cnt_none (none_of w hh d px ms plteN (by decide) (by decide) (by decide) (by decide))).2
  have htr : (datP (pngL w hh d px ms) trnsN) = [] := (cnt_none (none_of w hh d px ms trnsN (by decide) (by decide) (by decide) (by decide))).2
  have hpic := pic_back w hh d hd px hl hv hh (Nat.le_refl _)
  rw [List.take_of_length_le (by rw [hl, Nat.mul_comm]; exact Nat.le_refl _)] at hpic
  have hpx : pixR (pngL w hh d px ms) w hh d 6 = .ok (px.map (cvP d)) := by
    unfold pixR
    rw [i2, hz, hpl, htr]
    simp only
    rw [hb, hll, Nat.add_comm (w * (d / 2)) 1, if_neg (Nat.lt_irrefl _), if_neg (Nat.lt_irrefl _), hpic]
  unfold decP
  rw [hck]
  simp only
  rw [hdr_back w hh d px ms hw hhh hd]
  simp only
  rw [wro_back, pal_back, i3, hpx, ents_back w hh d px ms hc]
  simp
end Go.Proofs.YthbejefodelpkaaGreat
