/-
  An append of a row of nodes to nil; an append of one node that lies somewhere.
  Walk: ParseScopes. (Printed by gen_sc.py.)
-/
import Derived.Test.YtbaidkefobhipaaGreatDoorZS19
import Derived.Test.YtbaidkefobhipaaGreatDoorZS32
import Derived.Test.YtbaidkefobhipaaGreatDoorZS7
import Derived.Test.YtbaidkefobhipaaGreatDoorZPra
import Derived.Deep.DeepCutAuto
namespace Go.Proofs.YtbaidkefobhipaaGreatDoor
open Go.RowKit

theorem FAt.cells {w : World} {b : Nat} : ∀ (F : Fo) (off : Nat), FAt w F b off → ∃ xs : List Value, xs.length = F.len * 6 ∧ FCl w xs F ∧ (∀ i v, xs[i]? = some v → w.cell? ⟨b, off + i, none⟩ = some v) ∧ ∀ u ∈ xs, u.oneCell' = true := by
 intro F
 induction F with
 | nil => intro off _; exact ⟨[], rfl, rfl, fun i v h => by simp at h, fun u h => by simp at h⟩
 | cons h k r _ ihr =>
  intro off ⟨h0, h1, h2, ⟨u, h3, hn⟩, ⟨v, h4, hk⟩, h5, hr⟩
  obtain ⟨xn, cn, rfl, -⟩ := id hn
  obtain ⟨xk, ck, rfl, -⟩ := id hk
  obtain ⟨ys, e1, e2, e3, e4⟩ := ihr _ hr
  have hT : NdV w (ndV h (.slice xn h.names.length cn) (.slice xk k.len ck)) (h, k) := ndv_mk h k rfl rfl hn hk
  refine ⟨(ndV h (.slice xn h.names.length cn) (.slice xk k.len ck)).toList ++ ys, by simp [ndV, e1, Fo.len]; omega, ⟨_, ys, rfl, hT, e2⟩, fun i v hi => ?_, fun u hu => ?_⟩
  ·by_cases h6 : i < 6
   ·rw [List.getElem?_append_left (by simpa [ndV] using h6)] at hi
    match i, h6 with
    | 0, _ => cases hi; exact h0
    | 1, _ => cases hi; exact h1
    | 2, _ => cases hi; exact h2
    | 3, _ => cases hi; exact h3
    | 4, _ => cases hi; exact h4
    | 5, _ => cases hi; exact h5
   ·rw [List.getElem?_append_right (by simp [ndV]; omega)] at hi
    have := e3 (i - 6) v (by simpa [ndV] using hi)
    rwa [show off + 6 + (i - 6) = off + i by omega] at this
  ·rcases List.mem_append.1 hu with h7 | h7
   ·exact hT.one' u h7
   ·exact e4 u h7

theorem pstep_appF {P : Program} {ops : Array Oper} {o : Oper} {a : Act} {K : Act → World → Prop} {Q : Exit → Act → World → Prop} {E : Prop} {t : TypeId} {bytes : Nat} {z : Value} {s xx : Operand}
  (hE : Elem P t 31 z 6 bytes) {w : World} {base : Nat} {F : Fo} {m c : Nat} {x : Option Addr} (hf : FRow w (.slice x m c) F) (hm : 0 < m) (hbase : base ≤ w.heap.size)
  (hgd : o.guard = none) (ho : o.op = .call { callee := .builtin .append, args := #[s, xx], argTypes := #[t, t] }) (hs : a.eval s = .slice none 0 0) (hx : a.eval xx = .slice x m c)
  (hlen : m * bytes ≤ 140737488355328)
  (h : ∀ r cap w', KRow (fun _ => true) w' base (.slice (some ⟨r, 0, none⟩) m cap) F → Below w.heap.size w w' → r = w.heap.size → K (a.put o.dst (.slice (some ⟨r, 0, none⟩) m cap)) w') :
  if Region.wanted o (yielded ops a.tmps) = true then Oper.wp P o a w K Q else E := by
 obtain ⟨ht, ⟨i, hi, hz, hsz, hby⟩, hzs, hp⟩ := hE
 obtain ⟨x', c', e1, hc1, hc2, -, h5⟩ := hf
 injection e1 with e2 e3 e4
 subst e2 e4
 rw [e3] at hx hm hlen h
 clear e3
 obtain ⟨b, off, rfl, hat⟩ := h5 (by omega)
 obtain ⟨xs, g1, g2, g3, g4⟩ := hat.cells
 refine step_append_lies _ hgd s xx t ho base 31 i z 6 bytes ht hi hz hsz hby hzs hp (.slice none 0 0) 0 [] hs ⟨rfl, .inl ⟨rfl, rfl⟩⟩ ⟨b, off, none⟩ F.len c xs hx g1 (fun j u hu => by rw [Addr.add_lit]; exact g3 j u hu) g4 hm (by omega) (by rw [Nat.zero_add]; exact hlen) hbase w.heap.size rfl ?_
 intro r cap w' h1 h2 h3 _
 rw [Nat.zero_add] at h1 ⊢
 have hr : r = w.heap.size := by
  rcases h3 with h4 | h4
  ·simp [Value.ownBlock] at h4
  ·exact h4
 have hbl : Below w.heap.size w w' := ⟨h2.os, h2.tape, h2.output, h2.size, fun k hk => h2.block k hk (by simp [Value.ownBlock])⟩
 refine h r cap w' ⟨xs, h1, ?_, fun _ _ => rfl⟩ hbl hr
 refine FCl.sub (fun bb oo vv hcell => ?_) _ _ g2
 have hlt := World.block_lt_of_cell? w _ hcell
 simp only at hlt
 refine (mask_cell _ w' bb oo vv).2 ⟨by simp [Value.ownBlock]; omega, ?_⟩
 rw [hbl.cell (p := ⟨bb, oo, none⟩) hlt]
 exact hcell

theorem pstep_appB {P : Program} {ops : Array Oper} {o : Oper} {a : Act} {K : Act → World → Prop} {Q : Exit → Act → World → Prop} {E : Prop} {t : TypeId} {bytes : Nat} {z : Value} {s xx : Operand}
  (hE : Elem P t 31 z 6 bytes) {S : Nat → Bool} {w : World} {base kz : Nat} {v : Value} {acc : Fo} {n : Nat} {T : Array Value} {x : Nd} (hk : KRow S w base v acc) (hn : acc.len = n)
  (hfr : ∀ k, w.heap.size ≤ k → S k = true) (hT : NdV (maskW (fun k => S k && decide (v.ownBlock ≠ some k)) w) T x) (hbase : base ≤ w.heap.size) (hz0 : Blk w kz 31 T)
  (hgd : o.guard = none) (ho : o.op = .call { callee := .builtin .append, args := #[s, xx], argTypes := #[t, t] }) (hs : a.eval s = v) (hx : a.eval xx = .slice (some ⟨kz, 0, none⟩) 1 1)
  (hlen : (n + 1) * bytes ≤ 140737488355328) (h63 : n + 1 ≤ maxLen)
  (h : ∀ r cap w', KRow S w' base (.slice (some ⟨r, 0, none⟩) (n + 1) cap) (acc.app x.one) → w.grownBy w' v.ownBlock → K (a.put o.dst (.slice (some ⟨r, 0, none⟩) (n + 1) cap)) w') :
  if Region.wanted o (yielded ops a.tmps) = true then Oper.wp P o a w K Q else E := by
 obtain ⟨ht, ⟨i, hi, hz, hsz, hby⟩, hzs, hp⟩ := hE
 obtain ⟨xs, hown, hf, hS⟩ := hk
 rw [hn] at hown
 refine step_append_lies _ hgd s xx t ho base 31 i z 6 bytes ht hi hz hsz hby hzs hp v n xs hs hown ⟨kz, 0, none⟩ 1 1 T.toList hx (by simp [hT.size]) (World.news_of_block hz0) hT.one' (by omega) h63 hlen hbase w.heap.size rfl ?_
 intro r cap w' h1 h2 h3 _
 have hSr : S r = true := by
  rcases h3 with h4 | h4
  ·exact hS r h4
  ·exact hfr r (by omega)
 have hblk : ∀ k, k < w.heap.size → v.ownBlock ≠ some k → w'.heap[k]? = w.heap[k]? := fun k hk hne => h2.block k hk (fun e => hne e.symm)
 refine h r cap w' (KRow.more (v := v) (w := w) hf hT (by rw [hn]) h1 hSr ?_ hblk) h2
 rcases h3 with h4 | h4
 ·exact .inl h4
 ·exact .inr (by omega)

theorem csub_below {S : Nat → Bool} {w w' : World} (hb : Below w.heap.size w w') (hS : ∀ k, k < w.heap.size → S k = true) : CSub w (maskW S w') := fun b o v hc =>
 (mask_cell S w' b o v).2 ⟨hS b (World.block_lt_of_cell? w _ hc), (hb.cell (p := ⟨b, o, none⟩) (World.block_lt_of_cell? w _ hc)).trans hc⟩
theorem below_grown {B r : Nat} {w w' w'' : World} {v : Value} (hb : Below B w w') (hg : w'.grownBy w'' v.ownBlock) (hv : v.ownBlock = some r) (hr : B ≤ r) (hB : B ≤ w'.heap.size) : Below B w w'' :=
 ⟨hg.os.trans hb.os, hg.tape.trans hb.tape, hg.output.trans hb.output, Nat.le_trans hb.size hg.size, fun k hk => (hg.block k (by omega) (by rw [hv]; simp; omega)).trans (hb.block k hk)⟩

theorem rt_app : ∀ (A B : Fo), rt .st (A.app B) = (rt .st A && rt .st B) := by
 intro A
 induction A with
 | nil => intro B; simp [Fo.app, rt]
 | cons h k r _ ih => intro B; simp only [Fo.app, rt, ih B, Bool.and_assoc]
def CE.Nz {α : Type} (r : CE α) : Prop := ∀ x, r = .error x → x.2 ≠ 0
theorem nz_ok {α : Type} (a : α) : CE.Nz (.ok a) := fun _ h => by cases h
theorem nz_err {α : Type} (p : Int) (n : Nat) (hn : n ≠ 0) : CE.Nz (.error (p, n) : CE α) := fun _ h => by cases h; exact hn
theorem nz_ite {α : Type} {c : Prop} [Decidable c] {a b : CE α} (ha : CE.Nz a) (hb : CE.Nz b) : CE.Nz (if c then a else b) := by
 by_cases h : c
 ·rw [if_pos h]; exact ha
 ·rw [if_neg h]; exact hb
theorem nz_then {α β : Type} {r : CE α} {f : α → CE β} (hr : CE.Nz r) (hf : ∀ a, CE.Nz (f a)) : CE.Nz (r.then f) := by
 cases r with
 | error x => exact fun y h => by cases h; exact hr x rfl
 | ok a => exact hf a
theorem exC_nz : ∀ (F : Fo) (ss : List (List Nm)), CE.Nz (exC ss F) := by
 intro F
 induction F with
 | nil => intro _; exact nz_ok _
 | cons h k r ihk ihr => intro ss; simp only [exC]; exact nz_ite (nz_err _ _ (by decide)) (nz_then (ihk ss) fun _ => ihr ss)
theorem ckC_nz : ∀ (F : Fo) (m : Cm) (s : CS), CE.Nz (ckC m s F) := by
 intro F
 induction F with
 | nil => intro m s; cases m <;> (simp only [ckC]; exact nz_ok _)
 | cons h k r ihk ihr =>
  intro m s
  have hex := exC_nz k s.ss
  cases m with
  | st p =>
   rw [ckC]
   refine nz_then ?_ fun s' => ihr _ _
   refine nz_ite (nz_then hex fun _ => nz_ite (nz_err _ _ (by decide)) (nz_ok _)) ?_
   refine nz_ite (nz_ite (nz_err _ _ (by decide)) (nz_then hex fun _ => nz_ok _)) ?_
   refine nz_ite (ihk _ _) (nz_ite (ihk _ _) (nz_ite (ihk _ _) ?_))
   refine nz_ite (nz_then (ihk _ _) fun _ => nz_ok _) ?_
   refine nz_ite (nz_ite (nz_err _ _ (by decide)) (nz_ite (nz_err _ _ (by decide)) (nz_ite (nz_err _ _ (by decide)) (ihk _ _)))) ?_
   refine nz_ite (nz_ite (nz_err _ _ (by decide)) (nz_then hex fun _ => nz_ok _)) ?_
   refine nz_ite (nz_then hex fun _ => nz_ok _) ?_
   exact nz_ite (nz_ite (nz_err _ _ (by decide)) (nz_ok _)) (nz_ok _)
  | iff => rw [ckC]; exact nz_ite (nz_err _ _ (by decide)) (nz_then hex fun _ => ihr _ _)
  | loop ns =>
   cases r with
   | nil => rw [ckC]; exact nz_then (ihk _ _) fun _ => nz_ok _
   | cons h2 k2 r2 => rw [ckC]; exact nz_ite (nz_err _ _ (by decide)) (nz_then hex fun _ => ihr _ _)
  | fnb ns => rw [ckC]; exact nz_then (ihk _ _) fun _ => nz_ok _
theorem chkL_ok {F : Fo} (h : (chkL F).2 = 0) : rt .st F = true ∧ ∃ s', ckC (.st true) ⟨[[]], [], 0, false⟩ F = .ok s' := by
 unfold chkL at h
 by_cases hr : rt .st F = false
 ·rw [if_pos hr] at h; cases h
 ·rw [if_neg hr] at h
  refine ⟨by simpa using hr, ?_⟩
  cases hc : ckC (.st true) ⟨[[]], [], 0, false⟩ F with
  | error x => rw [hc] at h; exact absurd h (ckC_nz _ _ _ _ hc)
  | ok s' => exact ⟨s', rfl⟩
theorem chkL_dup {A r k : Fo} {h : Hd} (hk : h.kind = 20) (hc : (chkL (A.app (.cons h k r))).2 = 0) : chkL ((A.app (.cons h k r)).app (.cons h k .nil)) = (h.pos, 10) := by
 obtain ⟨h1, s', h2⟩ := chkL_ok hc
 have h3 := ck_dup hk (by simp) h2
 unfold chkL
 have h4 : rt .st ((A.app (.cons h k r)).app (.cons h k .nil)) = true := by
  rw [rt_app, h1]
  rw [rt_app] at h1
  simp only [rt, Bool.and_eq_true] at h1 ⊢
  exact ⟨trivial, h1.2.1, trivial⟩
 rw [if_neg (by rw [h4]; decide), h3]
theorem chkL_block {F : Fo} (hf : hasFn F = false) (hc : (chkL F).2 = 0) : chkL (.cons (hdT 25 [] 0 0) F .nil) = (0, 0) := by
 obtain ⟨h1, s', h2⟩ := chkL_ok hc
 obtain ⟨s2, h3⟩ := ck_block F (hdT 25 [] 0 0) rfl hf h2
 unfold chkL
 have h4 : rt .st (.cons (hdT 25 [] 0 0) F .nil) = true := by
  simp only [rt, Bool.and_eq_true]
  exact ⟨⟨rfl, h1⟩, trivial⟩
 rw [if_neg (by rw [h4]; decide), h3]
theorem hasFn_app : ∀ (A B : Fo), hasFn (A.app B) = (hasFn A || hasFn B) := by
 intro A
 induction A with
 | nil => intro B; simp [Fo.app, hasFn]
 | cons h k r _ ih => intro B; simp only [Fo.app, hasFn, ih B, Bool.or_assoc]
end Go.Proofs.YtbaidkefobhipaaGreatDoor
namespace Go.Proofs.YtbaidkefobhipaaGreatDoor
open Go.RowKit

theorem fob_dup {A r k : Fo} {h : Hd} (hf : FoB (A.app (.cons h k r))) : FoB ((A.app (.cons h k r)).app (.cons h k .nil)) := by
 rw [FoB_app]
 refine ⟨hf, ?_⟩
 rw [FoB_app] at hf
 exact ⟨hf.2.1, hf.2.2.1, hf.2.2.2.1, trivial⟩
theorem Fo.len_size : ∀ F : Fo, F.len ≤ F.size := by
 intro F
 induction F with
 | nil => exact Nat.le_refl _
 | cons h k r _ ih => simp only [Fo.len, Fo.size]; omega
set_option maxHeartbeats 16000000 in
set_option maxRecDepth 100000 in
theorem lawScopes (s : ByteArray) (W : World) (hd : Ldd W) (hs : s.size ≤ maxLen) : Calls Tryz.prog 7 #[.string s] W fun e W' => e = .returned (.bool true) ∧ Below W.heap.size W W' := by
 have HPR := zH (prog_run s W hs)
 have HAW := zH (fun w' (hb : Below W.heap.size W w') => hd.awake hb)
 clear hd hs
 go_enter Tryz.func7, Tryz.ntmps7
 go_wp2_with fail
 refine HPR.out.mono ?_
 rintro e w1 ⟨h, hb⟩
 have HB1 := zH hb
 clear HPR hb
 have HA1 := zH (HAW.out w1 HB1.out)
 cases hp : proP s.data.toList with
 | error x =>
  have HX := zH ((proP_bad hp).1)
  rw [hp] at h
  dsimp only at h
  subst h
  clear hp
  obtain ⟨x1, x2⟩ := x
  have e1 : ((x2 : Int) != 0) = true := by have := HX.out; simp at this ⊢; omega
  dsimp only
  go_wp2_with fail
  refine HA1.out.mono ?_
  rintro e w2 ⟨rfl, hb⟩
  have HB2 := zH (HB1.out.trans (hb.mono HB1.out.size))
  have HA2 := zH (HAW.out w2 HB2.out)
  clear hb HA1
  go_wp2_with fail
  refine HA2.out.mono ?_
  rintro e w3 ⟨rfl, hb⟩
  have HB3 := zH (HB2.out.trans (hb.mono HB2.out.size))
  clear hb HA2
  go_wp2_with fail
  go_ret
  exact ⟨by simp, HB3.out⟩
 | ok F =>
  have HFB := zH (fob_of hp)
  have HSZ := zH (proP_ok hp).2
  rw [hp] at h
  obtain ⟨x, c, rfl, hr⟩ := h
  clear hp
  go_wp2_with fail
  refine HA1.out.mono ?_
  rintro e w2 ⟨rfl, hb⟩
  have HB2 := zH (HB1.out.trans (hb.mono HB1.out.size))
  have HR2 := zH (hr.below hb)
  clear hb HA1 hr HAW
  have HWS : Hid (F.size ≤ 20480) := Nat.le_trans (size_wt F) HSZ.out
  have HCK := zH (check_any F _ w2 HR2.out HFB.out (by have := HWS.out; unfold Mx; omega))
  unfold chkV at HCK
  obtain ⟨⟨q1, q2⟩, hq⟩ : ∃ q, chkL F = q := ⟨_, rfl⟩
  have HQ := zH hq
  rw [hq] at HCK
  clear hq
  go_wp2_with fail
  refine HCK.out.mono ?_
  rintro e w3 ⟨rfl, hb⟩
  have HB3 := zH (HB2.out.trans (hb.mono HB2.out.size))
  have HR3 := zH (HR2.out.below hb)
  clear hb HCK HR2 HB2 HB1
  by_cases h0 : q2 = 0
  case neg =>
   have e1 : ((q2 : Int) != 0) = true := by simp; omega
   go_wp2_with fail
   go_ret
   exact ⟨by simp, HB3.out⟩
  case pos =>
  subst h0
  have HC0 : Hid ((chkL F).2 = 0) := by show _ = _; rw [HQ.out]
  obtain ⟨n, hn⟩ : ∃ n, F.len = n := ⟨_, rfl⟩
  rw [hn] at HR3
  have HL := zH hn
  have hn2 : n ≤ 20480 := by have h1 := HWS.out; have h2 : F.len ≤ F.size := Fo.len_size F; omega
  clear HQ
  go_wp2_with fail
  go_loopw [8, 36] (fun vf vi wr => ∃ (i : Nat) (A R : Fo), vi = .int .i64 i ∧ i ≤ n ∧ vf = .bool (hasFn A) ∧ Hid (F = A.app R ∧ A.len = i) ∧ Hid (Below W.heap.size W wr) ∧ Hid (FRow wr (.slice x n c) F)) (fun _ vi _ => n - (intOf vi).toNat)
  case atStart => exact ⟨0, .nil, F, rfl, Nat.zero_le _, rfl, ⟨rfl, rfl⟩, HB3.out, HR3.out⟩
  case round =>
   clear HB3 HR3
   obtain ⟨i, A, R, rfl, hi, rfl, hA, hbw, hfr⟩ := hrel
   by_cases hlt : i < n
   case neg =>
    have dlt : decide ((i : Int) < (n : Int)) = false := by simp; omega
    obtain rfl : R = .nil := by
     cases R with
     | nil => rfl
     | cons h k r => have h1 := hA.out.1; have h2 := HL.out; rw [h1, Fo.app_len, hA.out.2] at h2; simp only [Fo.len] at h2; omega
    have HAF : Hid (A = F) := by show _ = _; rw [hA.out.1, Fo.app_nil]
    obtain ⟨hf, hhf⟩ : ∃ b, hasFn A = b := ⟨_, rfl⟩
    rw [hhf]
    have HHF := zH hhf
    clear hhf hA
    cases hf with
    | true =>
     go_wp2_with fail
     go_ret
     exact ⟨by simp, hbw.out⟩
    | false =>
     have hb1 := (Below.refl wr.heap.size wr).alloc (Nat.le_refl _) (.cells #[.int .i64 25, .string ⟨#[]⟩, .int .i64 0, .slice none 0 0, .slice x n c, .int .i64 0] 31)
     have hk := Blk.new wr 31 #[.int .i64 25, .string ⟨#[]⟩, .int .i64 0, .slice none 0 0, .slice x n c, .int .i64 0]
     have hrow : FRow (wr.alloc (.cells #[.int .i64 25, .string ⟨#[]⟩, .int .i64 0, .slice none 0 0, .slice x n c, .int .i64 0] 31)) (.slice (some ⟨wr.heap.size, 0, none⟩) 1 1) (.cons (hdT 25 [] 0 0) F .nil) := by
      have p1 := frow_blk (S := fun _ => true) (F := .cons (hdT 25 [] 0 0) F .nil) hk rfl (FCl.one (aw_kid 25 0 0 [] HL.out.symm (FRow.sub (fun b o v hc => (mask_cell _ _ b o v).2 ⟨rfl, hc⟩) (hfr.out.below hb1)))) (by simp [Fo.len])
      exact p1.sub (unmask _ _)
     have HCB := zH (check_any _ _ _ hrow ⟨by decide, fun _ h => by simp [hdT] at h, HFB.out, trivial⟩ (by have := HWS.out; simp only [Fo.size]; unfold Mx; omega))
     unfold chkV at HCB
     rw [chkL_block (by rw [← HAF.out]; exact HHF.out) HC0.out] at HCB
     have HB9 := zH (hbw.out.trans (hb1.mono hbw.out.size))
     clear hb1 hk hrow
     go_wp2_with fail
     refine HCB.out.mono ?_
     rintro e w8 ⟨rfl, hb⟩
     have HB8 := zH (HB9.out.trans (hb.mono HB9.out.size))
     clear hb HCB HB9
     go_wp2_with fail
     go_ret
     exact ⟨by simp, HB8.out⟩
   case pos =>
   have dlt : decide ((i : Int) < (n : Int)) = true := by simp; omega
   have i1 : (i : Int) < (n : Int) := by omega
   obtain ⟨h, k, r, rfl⟩ : ∃ h k r, R = .cons h k r := by
    cases R with
    | nil => have h1 := hA.out.2; have h2 := HL.out; rw [hA.out.1, Fo.app_nil] at h2; omega
    | cons h k r => exact ⟨h, k, r, rfl⟩
   have hf1 : FRow wr (.slice x n c) (A.app (.cons h k r)) := by rw [← hA.out.1]; exact hfr.out
   obtain ⟨b, off, xn, cn, xk, ck, rfl, ⟨k0, k1, k2, k3, k4, k5⟩, hn1, hk1⟩ := hf1.node
   rw [hA.out.2] at k0 k1 k2 k3 k4 k5
   have HNX : Hid (F = (A.app (.cons h k .nil)).app r ∧ (A.app (.cons h k .nil)).len = i + 1) := ⟨by rw [← Fo.next]; exact hA.out.1, by rw [Fo.app_len, hA.out.2]; rfl⟩
   have hb1 := (Below.refl wr.heap.size wr).alloc (Nat.le_refl _) (.cells (ndV h (.slice xn h.names.length cn) (.slice xk k.len ck)) 31)
   have HND : Hid (NdV (wr.alloc (.cells (ndV h (.slice xn h.names.length cn) (.slice xk k.len ck)) 31)) (ndV h (.slice xn h.names.length cn) (.slice xk k.len ck)) (h, k)) := ndv_mk h k rfl rfl (hn1.below hb1) (hk1.below hb1)
   have HKB := zH (Blk.new wr 31 (ndV h (.slice xn h.names.length cn) (.slice xk k.len ck)))
   have HB4 := zH (hbw.out.trans (hb1.mono hbw.out.size))
   have HR4 : Hid (FRow (wr.alloc (.cells (ndV h (.slice xn h.names.length cn) (.slice xk k.len ck)) 31)) (.slice (some ⟨b, off, none⟩) n c) F) := hfr.out.below hb1
   have HFN : Hid (hasFn (A.app (.cons h k .nil)) = (hasFn A || decide (h.kind = 26))) := by show _ = _; rw [hasFn_app]; simp only [hasFn, Bool.or_false]
   clear hf1 hn1 hk1 hb1 hbw hfr
   obtain ⟨kd, tx, nu, nm, ps⟩ := h
   unfold ndV at HND HKB HB4 HR4
   simp only at k0 k1 k2 k3 k4 k5 HND HKB HB4 HR4 HFN
   obtain ⟨m, hm⟩ : ∃ m, nm.length = m := ⟨_, rfl⟩
   have HM := zH hm
   rw [hm] at k3 HND HKB HB4 HR4
   clear hm
   obtain ⟨vf, hvf⟩ : ∃ b, hasFn A = b := ⟨_, rfl⟩
   rw [hvf] at HFN ⊢
   clear hvf
   go_upto_region 11 with fail
   clear k0 k1 k2 k3 k4 k5
   generalize wr.alloc (.cells #[.int .i64 kd, .string ⟨tx.toArray⟩, .int .i64 nu, .slice xn m cn, .slice xk k.len ck, .int .i64 ps] 31) = wy at *
   generalize hKB1 : wr.heap.size = KB at *
   have y0 : wy.cell? ⟨KB, 0, none⟩ = some (.int .i64 kd) := HKB.out.cell 0
   have y5 : wy.cell? ⟨KB, 5, none⟩ = some (.int .i64 ps) := HKB.out.cell 5
   go_cut [8] from 40 to 45 (fun v8 wx => v8 = .bool (vf || decide (kd = 26)) ∧ wy = wx)
   case first =>
    cases vf with
    | true =>
     go_wp2_with fail
     go_meet
     case rel => exact ⟨by simp, rfl⟩
    | false =>
     go_wp2_with fail
     go_meet
     case rel => exact ⟨by simp; rfl, rfl⟩
   case rest =>
   obtain ⟨rfl, rfl⟩ := hcut
   have HN2 : Hid (hasFn (A.app (.cons ⟨kd, tx, nu, nm, ps⟩ k .nil)) = (vf || decide (kd = 26))) := HFN
   obtain ⟨vg, hvg⟩ : ∃ b, (vf || decide (kd = 26)) = b := ⟨_, rfl⟩
   rw [hvg] at HN2 ⊢
   clear hvg HFN
   by_cases c20 : kd = 20
   case neg =>
    have e20 : (kd != 20) = true := by simp; exact c20
    go_wp2_with fail
    go_roundw
    case rel => exact ⟨i + 1, _, r, by go_num, by omega, by rw [HN2.out], HNX, HB4.out, HR4.out⟩
    case measure => simp [intOf]; omega
   case pos =>
   subst c20
   have HFA : Hid (F = A.app (.cons ⟨20, tx, nu, nm, ps⟩ k r)) := hA.out.1
   have HDU : Hid (chkL (F.app (.cons ⟨20, tx, nu, nm, ps⟩ k .nil)) = (ps, 10)) := by show _ = _; rw [HFA.out]; exact chkL_dup rfl (by rw [← HFA.out]; exact HC0.out)
   have HFO : Hid (FoB (F.app (.cons ⟨20, tx, nu, nm, ps⟩ k .nil))) := by show FoB _; rw [HFA.out]; exact fob_dup (by rw [← HFA.out]; exact HFB.out)
   have HMX : Hid ((F.app (.cons ⟨20, tx, nu, nm, ps⟩ k .nil)).size + 1 ≤ Mx) := by
    have h1 := HWS.out
    have h2 : k.size < F.size := by rw [HFA.out]; exact Fo.kid_size A _ k r
    show _ ≤ _
    rw [Fo.app_size]
    simp only [Fo.size]
    unfold Mx
    omega
   go_upto_region 13 with fail
   refine wp_region_held_drew (S := fun _ => True) (by kernel_rfl) trivial (fun hS => ?_)
   have HBD : Hid (Below W.heap.size W wy.drew) := drewN_below HB4.out 1
   have HKD : Hid (Blk wy.drew KB 31 #[.int .i64 20, .string ⟨tx.toArray⟩, .int .i64 nu, .slice xn m cn, .slice xk k.len ck, .int .i64 ps]) := HKB.out.drew
   have HRD : Hid (FRow wy.drew (.slice (some ⟨b, off, none⟩) n c) F) := HR4.out.below (drewN_below (Below.refl _ _) 1)
   have HTD : Hid (NdV wy.drew #[.int .i64 20, .string ⟨tx.toArray⟩, .int .i64 nu, .slice xn m cn, .slice xk k.len ck, .int .i64 ps] (⟨20, tx, nu, nm, ps⟩, k)) := HND.out.sub (show CSub wy wy.drew from fun _ _ _ hc => hc)
   clear hA HKB HND y0 y5
   generalize wy.drew = wd at *
   refine wpAnyH_take (i := 0) (oi := ⟨some 50, Op.move (Operand.tmp 3), 22, _, _, none⟩) (v := ?vs1) rfl (by kernel_rfl) (by kernel_rfl) (by kernel_rfl) (fun _ _ _ h => h) (Or.inl ⟨by rfl, ?ys1⟩) hS ?rs1
   case ys1 => (intro w hSw; (try dsimp only at hSw); go_simp; try with_reducible rfl)
   try simp only [Act.put, zs1, zs2, zs3]
   refine wpAnyH_ready (rs := [1, 2]) (by kernel_rfl) (by simp) ?rs2
   refine AllReadyH.cons (o := ⟨some 51, Op.call { callee := Callee.builtin Builtin.append, args := #[Operand.const (Value.slice none 0 0), Operand.tmp 50], argTypes := #[22, 22] }, 22, _, _, none⟩) rfl (fun K hK => ?sas2) (AllReadyH.cons (o := ⟨some 52, Op.load 31 (Operand.tmp 10), 31, _, _, none⟩) rfl (fun K hK => ?sbs2) AllReadyH.nil)
   case sas2 =>
    refine pstep_appF el_syn (x := some ⟨b, off, none⟩) (c := c) HRD.out (by omega) (Nat.zero_le _) rfl rfl (by rfl) (by rfl) (by omega) ?_
    intro r1 cap1 w5 hk5 hb5 hr5
    refine hK.out _ _ trivial (fun _ => ?_)
    clear hK K
    try simp only [Act.put, zs1, zs2, zs3]
    have HB5 := zH hb5
    have HKR := zH hk5
    have HR5 := zH hr5
    have HK5B : Hid (Blk w5 KB 31 #[.int .i64 20, .string ⟨tx.toArray⟩, .int .i64 nu, .slice xn m cn, .slice xk k.len ck, .int .i64 ps]) := (hb5.block _ HKD.out.lt).trans HKD.out
    clear hb5 hk5 hr5
    refine wpAnyH_ready (rs := [2]) (by kernel_rfl) (by simp) ?rs3
    refine AllReadyH.cons (o := ⟨some 52, Op.load 31 (Operand.tmp 10), 31, _, _, none⟩) rfl (fun K hK => ?ss3) AllReadyH.nil
    refine pstep_load rfl 31 (.tmp 10) rfl KB (by rfl) 31 #[.int .i64 20, .string ⟨tx.toArray⟩, .int .i64 nu, .slice xn m cn, .slice xk k.len ck, .int .i64 ps] (0, 0) _ (by exact HK5B.out) Tryz.underlying31 rfl (by exact syn_info) ?_
    refine hK.out _ _ trivial (fun _ => ?_)
    clear hK K
    try simp only [Act.put, zs1, zs2, zs3]
    have hb51 := (Below.refl w5.heap.size w5).alloc (Nat.le_refl _) (.cells #[.int .i64 20, .string ⟨tx.toArray⟩, .int .i64 nu, .slice xn m cn, .slice xk k.len ck, .int .i64 ps] 31)
    have HBX := zH (HB5.out.trans (hb51.mono HB5.out.size))
    have HK5 : Hid (KRow (fun _ => true) (w5.alloc (.cells #[.int .i64 20, .string ⟨tx.toArray⟩, .int .i64 nu, .slice xn m cn, .slice xk k.len ck, .int .i64 ps] 31)) 0 (.slice (some ⟨r1, 0, none⟩) n cap1) F) := HKR.out.keep fun k hk hS => ⟨rfl, hb51.block k hk⟩
    have HT5 : Hid (NdV (maskW (fun k => true && decide ((.slice (some ⟨r1, 0, none⟩) n cap1 : Value).ownBlock ≠ some k)) (w5.alloc (.cells #[.int .i64 20, .string ⟨tx.toArray⟩, .int .i64 nu, .slice xn m cn, .slice xk k.len ck, .int .i64 ps] 31))) #[.int .i64 20, .string ⟨tx.toArray⟩, .int .i64 nu, .slice xn m cn, .slice xk k.len ck, .int .i64 ps] (⟨20, tx, nu, nm, ps⟩, k)) := HTD.out.sub (csub_below HBX.out fun k hk => by have h1 := HR5.out; simp [Value.ownBlock]; omega)
    have HRG : Hid (wd.heap.size ≤ r1) := Nat.le_of_eq HR5.out.symm
    have HZ5 := zH (Blk.new w5 31 #[.int .i64 20, .string ⟨tx.toArray⟩, .int .i64 nu, .slice xn m cn, .slice xk k.len ck, .int .i64 ps])
    clear hb51 HB5 HKR HR5 HK5B
    refine wpAnyH_ready (rs := [3]) (by kernel_rfl) (by simp) ?rs4
    refine AllReadyH.cons (o := ⟨some 53, Op.buildSlice 22 1 #[(0, Operand.tmp 52)], 22, _, _, none⟩) rfl (fun K hK => ?ss4) AllReadyH.nil
    refine pstep_oneN el_syn rfl rfl (T := #[.int .i64 20, .string ⟨tx.toArray⟩, .int .i64 nu, .slice xn m cn, .slice xk k.len ck, .int .i64 ps]) rfl (by rfl) ?_
    refine hK.out _ _ trivial (fun _ => ?_)
    clear hK K
    try simp only [Act.put, zs1, zs2, zs3]
    generalize w5.alloc (.cells #[.int .i64 20, .string ⟨tx.toArray⟩, .int .i64 nu, .slice xn m cn, .slice xk k.len ck, .int .i64 ps] 31) = wx at *
    generalize w5.heap.size = KZ at *
    refine wpAnyH_ready (rs := [4]) (by kernel_rfl) (by simp) ?rs5
    refine AllReadyH.cons (o := ⟨some 54, Op.call { callee := Callee.builtin Builtin.append, args := #[Operand.tmp 51, Operand.tmp 53], argTypes := #[22, 22] }, 22, _, _, none⟩) rfl (fun K hK => ?ss5) AllReadyH.nil
    refine pstep_appB (n := n) el_syn HK5.out HL.out (fun _ _ => rfl) HT5.out (Nat.zero_le _) HZ5.out rfl rfl (by rfl) (by rfl) (by omega) (by unfold maxLen; omega) ?_
    intro r2 cap2 w6 hk6 hg6
    refine hK.out _ _ trivial (fun _ => ?_)
    clear hK K
    try simp only [Act.put, zs1, zs2, zs3]
    have HB6 : Hid (Below wd.heap.size wd w6) := below_grown HBX.out hg6 (r := r1) rfl HRG.out HBX.out.size
    have HF6 : Hid (FRow w6 (.slice (some ⟨r2, 0, none⟩) (n + 1) cap2) (F.app (.cons ⟨20, tx, nu, nm, ps⟩ k .nil))) := (hk6.frow).sub (unmask _ _)
    have HCQ := zH (check_any _ _ w6 HF6.out HFO.out HMX.out)
    unfold chkV at HCQ
    rw [HDU.out] at HCQ
    clear hk6 hg6 HK5 HT5 HBX HRG HF6
    refine wpAnyH_ready (rs := [5]) (by kernel_rfl) (by simp) ?rs6
    refine AllReadyH.cons (o := ⟨some 55, Op.call { callee := Callee.value (Operand.func 8), args := #[Operand.tmp 54], argTypes := #[22] }, 24, _, _, none⟩) rfl (fun K hK => ?ss6) AllReadyH.nil
    go_simp
    refine HCQ.out.mono ?_
    rintro e w7 ⟨rfl, hb7⟩
    have HB7 := zH (HB6.out.trans (hb7.mono HB6.out.size))
    clear hb7 HCQ HB6
    refine hK.out _ _ trivial (fun _ => ?_)
    clear hK K
    refine wpAnyH_take (i := 6) (oi := ⟨some 49, Op.move (Operand.tmp 55), 24, _, _, none⟩) (v := ?vs7) rfl (by kernel_rfl) (by kernel_rfl) (by kernel_rfl) (fun _ _ _ h => h) (Or.inl ⟨by rfl, ?ys7⟩) hS ?rs7
    case ys7 => (intro w hSw; (try dsimp only at hSw); go_simp; try with_reducible rfl)
    try simp only [Act.put, zs1, zs2, zs3]
    refine wpAnyH_take (i := 7) (oi := ⟨some 56, Op.extract (Operand.tmp 49) 0, 3, _, _, none⟩) (v := ?vs8) rfl (by kernel_rfl) (by kernel_rfl) (by kernel_rfl) (fun _ _ _ h => h) (Or.inl ⟨by rfl, ?ys8⟩) hS ?rs8
    case ys8 => (intro w hSw; (try dsimp only at hSw); go_simp; try with_reducible rfl)
    try simp only [Act.put, zs1, zs2, zs3]
    refine wpAnyH_take (i := 8) (oi := ⟨some 57, Op.extract (Operand.tmp 49) 1, 23, _, _, none⟩) (v := ?vs9) rfl (by kernel_rfl) (by kernel_rfl) (by kernel_rfl) (fun _ _ _ h => h) (Or.inl ⟨by rfl, ?ys9⟩) hS ?rs9
    case ys9 => (intro w hSw; (try dsimp only at hSw); go_simp; try with_reducible rfl)
    try simp only [Act.put, zs1, zs2, zs3]
    refine wpAnyH_take (i := 9) (oi := ⟨some 11, Op.assign (Operand.tmp 56), 3, _, _, none⟩) (v := ?vs10) rfl (by kernel_rfl) (by kernel_rfl) (by kernel_rfl) (fun _ _ _ h => h) (Or.inl ⟨by rfl, ?ys10⟩) hS ?rs10
    case ys10 => (intro w hSw; (try dsimp only at hSw); go_simp; try with_reducible rfl)
    try simp only [Act.put, zs1, zs2, zs3]
    refine wpAnyH_take (i := 10) (oi := ⟨some 12, Op.assign (Operand.tmp 57), 23, _, _, none⟩) (v := ?vs11) rfl (by kernel_rfl) (by kernel_rfl) (by kernel_rfl) (fun _ _ _ h => h) (Or.inl ⟨by rfl, ?ys11⟩) hS ?rs11
    case ys11 => (intro w hSw; (try dsimp only at hSw); go_simp; try with_reducible rfl)
    try simp only [Act.put, zs1, zs2, zs3]
    refine wpAnyH_done (by kernel_rfl) ?_ _
    have HBZ := zH (HBD.out.trans (HB7.out.mono HBD.out.size))
    have HRZ := zH (HRD.out.below HB7.out)
    have HKZ : Hid (Blk w7 KB 31 #[.int .i64 20, .string ⟨tx.toArray⟩, .int .i64 nu, .slice xn m cn, .slice xk k.len ck, .int .i64 ps]) := (HB7.out.block _ HKD.out.lt).trans HKD.out
    have y5 : w7.cell? ⟨KB, 5, none⟩ = some (.int .i64 ps) := HKZ.out.cell 5
    clear HB7 HBD HRD HKD HTD
    go_wp2_with fail
    go_roundw
    case rel => exact ⟨i + 1, _, r, by go_num, by omega, by rw [HN2.out], HNX, HBZ.out, HRZ.out⟩
    case measure => simp [intOf]; omega
   case sbs2 =>
    refine pstep_load rfl 31 (.tmp 10) rfl KB (by rfl) 31 #[.int .i64 20, .string ⟨tx.toArray⟩, .int .i64 nu, .slice xn m cn, .slice xk k.len ck, .int .i64 ps] (0, 0) _ (by exact HKD.out) Tryz.underlying31 rfl (by exact syn_info) ?_
    refine hK.out _ _ trivial (fun _ => ?_)
    clear hK K
    try simp only [Act.put, zs1, zs2, zs3]
    refine wpAnyH_ready (rs := [1, 3]) (by kernel_rfl) (by simp) ?rs12
    refine AllReadyH.cons (o := ⟨some 51, Op.call { callee := Callee.builtin Builtin.append, args := #[Operand.const (Value.slice none 0 0), Operand.tmp 50], argTypes := #[22, 22] }, 22, _, _, none⟩) rfl (fun K hK => ?sas12) (AllReadyH.cons (o := ⟨some 53, Op.buildSlice 22 1 #[(0, Operand.tmp 52)], 22, _, _, none⟩) rfl (fun K hK => ?sbs12) AllReadyH.nil)
    case sas12 =>
     refine pstep_appF el_syn (x := some ⟨b, off, none⟩) (c := c) HRD.out (by omega) (Nat.zero_le _) rfl rfl (by rfl) (by rfl) (by omega) ?_
     intro r1 cap1 w5 hk5 hb5 hr5
     refine hK.out _ _ trivial (fun _ => ?_)
     clear hK K
     try simp only [Act.put, zs1, zs2, zs3]
     have HB5 := zH hb5
     have HKR := zH hk5
     have HR5 := zH hr5
     have HK5B : Hid (Blk w5 KB 31 #[.int .i64 20, .string ⟨tx.toArray⟩, .int .i64 nu, .slice xn m cn, .slice xk k.len ck, .int .i64 ps]) := (hb5.block _ HKD.out.lt).trans HKD.out
     clear hb5 hk5 hr5
     have hb51 := (Below.refl w5.heap.size w5).alloc (Nat.le_refl _) (.cells #[.int .i64 20, .string ⟨tx.toArray⟩, .int .i64 nu, .slice xn m cn, .slice xk k.len ck, .int .i64 ps] 31)
     have HBX := zH (HB5.out.trans (hb51.mono HB5.out.size))
     have HK5 : Hid (KRow (fun _ => true) (w5.alloc (.cells #[.int .i64 20, .string ⟨tx.toArray⟩, .int .i64 nu, .slice xn m cn, .slice xk k.len ck, .int .i64 ps] 31)) 0 (.slice (some ⟨r1, 0, none⟩) n cap1) F) := HKR.out.keep fun k hk hS => ⟨rfl, hb51.block k hk⟩
     have HT5 : Hid (NdV (maskW (fun k => true && decide ((.slice (some ⟨r1, 0, none⟩) n cap1 : Value).ownBlock ≠ some k)) (w5.alloc (.cells #[.int .i64 20, .string ⟨tx.toArray⟩, .int .i64 nu, .slice xn m cn, .slice xk k.len ck, .int .i64 ps] 31))) #[.int .i64 20, .string ⟨tx.toArray⟩, .int .i64 nu, .slice xn m cn, .slice xk k.len ck, .int .i64 ps] (⟨20, tx, nu, nm, ps⟩, k)) := HTD.out.sub (csub_below HBX.out fun k hk => by have h1 := HR5.out; simp [Value.ownBlock]; omega)
     have HRG : Hid (wd.heap.size ≤ r1) := Nat.le_of_eq HR5.out.symm
     have HZ5 := zH (Blk.new w5 31 #[.int .i64 20, .string ⟨tx.toArray⟩, .int .i64 nu, .slice xn m cn, .slice xk k.len ck, .int .i64 ps])
     clear hb51 HB5 HKR HR5 HK5B
     refine wpAnyH_ready (rs := [3]) (by kernel_rfl) (by simp) ?rs13
     refine AllReadyH.cons (o := ⟨some 53, Op.buildSlice 22 1 #[(0, Operand.tmp 52)], 22, _, _, none⟩) rfl (fun K hK => ?ss13) AllReadyH.nil
     refine pstep_oneN el_syn rfl rfl (T := #[.int .i64 20, .string ⟨tx.toArray⟩, .int .i64 nu, .slice xn m cn, .slice xk k.len ck, .int .i64 ps]) rfl (by rfl) ?_
     refine hK.out _ _ trivial (fun _ => ?_)
     clear hK K
     try simp only [Act.put, zs1, zs2, zs3]
     generalize w5.alloc (.cells #[.int .i64 20, .string ⟨tx.toArray⟩, .int .i64 nu, .slice xn m cn, .slice xk k.len ck, .int .i64 ps] 31) = wx at *
     generalize w5.heap.size = KZ at *
     refine wpAnyH_ready (rs := [4]) (by kernel_rfl) (by simp) ?rs14
     refine AllReadyH.cons (o := ⟨some 54, Op.call { callee := Callee.builtin Builtin.append, args := #[Operand.tmp 51, Operand.tmp 53], argTypes := #[22, 22] }, 22, _, _, none⟩) rfl (fun K hK => ?ss14) AllReadyH.nil
     refine pstep_appB (n := n) el_syn HK5.out HL.out (fun _ _ => rfl) HT5.out (Nat.zero_le _) HZ5.out rfl rfl (by rfl) (by rfl) (by omega) (by unfold maxLen; omega) ?_
     intro r2 cap2 w6 hk6 hg6
     refine hK.out _ _ trivial (fun _ => ?_)
     clear hK K
     try simp only [Act.put, zs1, zs2, zs3]
     have HB6 : Hid (Below wd.heap.size wd w6) := below_grown HBX.out hg6 (r := r1) rfl HRG.out HBX.out.size
     have HF6 : Hid (FRow w6 (.slice (some ⟨r2, 0, none⟩) (n + 1) cap2) (F.app (.cons ⟨20, tx, nu, nm, ps⟩ k .nil))) := (hk6.frow).sub (unmask _ _)
     have HCQ := zH (check_any _ _ w6 HF6.out HFO.out HMX.out)
     unfold chkV at HCQ
     rw [HDU.out] at HCQ
     clear hk6 hg6 HK5 HT5 HBX HRG HF6
     refine wpAnyH_ready (rs := [5]) (by kernel_rfl) (by simp) ?rs15
     refine AllReadyH.cons (o := ⟨some 55, Op.call { callee := Callee.value (Operand.func 8), args := #[Operand.tmp 54], argTypes := #[22] }, 24, _, _, none⟩) rfl (fun K hK => ?ss15) AllReadyH.nil
     go_simp
     refine HCQ.out.mono ?_
     rintro e w7 ⟨rfl, hb7⟩
     have HB7 := zH (HB6.out.trans (hb7.mono HB6.out.size))
     clear hb7 HCQ HB6
     refine hK.out _ _ trivial (fun _ => ?_)
     clear hK K
     refine wpAnyH_take (i := 6) (oi := ⟨some 49, Op.move (Operand.tmp 55), 24, _, _, none⟩) (v := ?vs16) rfl (by kernel_rfl) (by kernel_rfl) (by kernel_rfl) (fun _ _ _ h => h) (Or.inl ⟨by rfl, ?ys16⟩) hS ?rs16
     case ys16 => (intro w hSw; (try dsimp only at hSw); go_simp; try with_reducible rfl)
     try simp only [Act.put, zs1, zs2, zs3]
     refine wpAnyH_take (i := 7) (oi := ⟨some 56, Op.extract (Operand.tmp 49) 0, 3, _, _, none⟩) (v := ?vs17) rfl (by kernel_rfl) (by kernel_rfl) (by kernel_rfl) (fun _ _ _ h => h) (Or.inl ⟨by rfl, ?ys17⟩) hS ?rs17
     case ys17 => (intro w hSw; (try dsimp only at hSw); go_simp; try with_reducible rfl)
     try simp only [Act.put, zs1, zs2, zs3]
     refine wpAnyH_take (i := 8) (oi := ⟨some 57, Op.extract (Operand.tmp 49) 1, 23, _, _, none⟩) (v := ?vs18) rfl (by kernel_rfl) (by kernel_rfl) (by kernel_rfl) (fun _ _ _ h => h) (Or.inl ⟨by rfl, ?ys18⟩) hS ?rs18
     case ys18 => (intro w hSw; (try dsimp only at hSw); go_simp; try with_reducible rfl)
     try simp only [Act.put, zs1, zs2, zs3]
     refine wpAnyH_take (i := 9) (oi := ⟨some 11, Op.assign (Operand.tmp 56), 3, _, _, none⟩) (v := ?vs19) rfl (by kernel_rfl) (by kernel_rfl) (by kernel_rfl) (fun _ _ _ h => h) (Or.inl ⟨by rfl, ?ys19⟩) hS ?rs19
     case ys19 => (intro w hSw; (try dsimp only at hSw); go_simp; try with_reducible rfl)
     try simp only [Act.put, zs1, zs2, zs3]
     refine wpAnyH_take (i := 10) (oi := ⟨some 12, Op.assign (Operand.tmp 57), 23, _, _, none⟩) (v := ?vs20) rfl (by kernel_rfl) (by kernel_rfl) (by kernel_rfl) (fun _ _ _ h => h) (Or.inl ⟨by rfl, ?ys20⟩) hS ?rs20
     case ys20 => (intro w hSw; (try dsimp only at hSw); go_simp; try with_reducible rfl)
     try simp only [Act.put, zs1, zs2, zs3]
     refine wpAnyH_done (by kernel_rfl) ?_ _
     have HBZ := zH (HBD.out.trans (HB7.out.mono HBD.out.size))
     have HRZ := zH (HRD.out.below HB7.out)
     have HKZ : Hid (Blk w7 KB 31 #[.int .i64 20, .string ⟨tx.toArray⟩, .int .i64 nu, .slice xn m cn, .slice xk k.len ck, .int .i64 ps]) := (HB7.out.block _ HKD.out.lt).trans HKD.out
     have y5 : w7.cell? ⟨KB, 5, none⟩ = some (.int .i64 ps) := HKZ.out.cell 5
     clear HB7 HBD HRD HKD HTD
     go_wp2_with fail
     go_roundw
     case rel => exact ⟨i + 1, _, r, by go_num, by omega, by rw [HN2.out], HNX, HBZ.out, HRZ.out⟩
     case measure => simp [intOf]; omega
    case sbs12 =>
     refine pstep_oneN el_syn rfl rfl (T := #[.int .i64 20, .string ⟨tx.toArray⟩, .int .i64 nu, .slice xn m cn, .slice xk k.len ck, .int .i64 ps]) rfl (by rfl) ?_
     refine hK.out _ _ trivial (fun _ => ?_)
     clear hK K
     try simp only [Act.put, zs1, zs2, zs3]
     have hbz := (Below.refl wd.heap.size wd).alloc (Nat.le_refl _) (.cells #[.int .i64 20, .string ⟨tx.toArray⟩, .int .i64 nu, .slice xn m cn, .slice xk k.len ck, .int .i64 ps] 31)
     have HBQ := zH hbz
     have HRQ := zH (HRD.out.below hbz)
     have HZQ := zH (Blk.new wd 31 #[.int .i64 20, .string ⟨tx.toArray⟩, .int .i64 nu, .slice xn m cn, .slice xk k.len ck, .int .i64 ps])
     have HSQ : Hid ((wd.alloc (.cells #[.int .i64 20, .string ⟨tx.toArray⟩, .int .i64 nu, .slice xn m cn, .slice xk k.len ck, .int .i64 ps] 31)).heap.size = wd.heap.size + 1) := by show _ = _; simp
     clear hbz
     generalize wd.alloc (.cells #[.int .i64 20, .string ⟨tx.toArray⟩, .int .i64 nu, .slice xn m cn, .slice xk k.len ck, .int .i64 ps] 31) = wq at *
     obtain ⟨KZ, hKZ⟩ : ∃ KZ, wd.heap.size = KZ := ⟨_, rfl⟩
     rw [hKZ] at HZQ HSQ ⊢
     refine wpAnyH_ready (rs := [1]) (by kernel_rfl) (by simp) ?rs21
     refine AllReadyH.cons (o := ⟨some 51, Op.call { callee := Callee.builtin Builtin.append, args := #[Operand.const (Value.slice none 0 0), Operand.tmp 50], argTypes := #[22, 22] }, 22, _, _, none⟩) rfl (fun K hK => ?ss21) AllReadyH.nil
     refine pstep_appF el_syn (x := some ⟨b, off, none⟩) (c := c) HRQ.out (by omega) (Nat.zero_le _) rfl rfl (by rfl) (by rfl) (by omega) ?_
     intro r1 cap1 w5 hk5 hb5 hr5
     refine hK.out _ _ trivial (fun _ => ?_)
     clear hK K
     try simp only [Act.put, zs1, zs2, zs3]
     have HBX : Hid (Below wd.heap.size wd w5) := HBQ.out.trans (hb5.mono (by have h1 := HSQ.out; omega))
     have HK5 := zH hk5
     have HT5 : Hid (NdV (maskW (fun k => true && decide ((.slice (some ⟨r1, 0, none⟩) n cap1 : Value).ownBlock ≠ some k)) w5) #[.int .i64 20, .string ⟨tx.toArray⟩, .int .i64 nu, .slice xn m cn, .slice xk k.len ck, .int .i64 ps] (⟨20, tx, nu, nm, ps⟩, k)) := HTD.out.sub (csub_below HBX.out fun k hk => by have h1 := HSQ.out; have h2 := hr5; simp [Value.ownBlock]; omega)
     have HRG : Hid (wd.heap.size ≤ r1) := by have h1 := HSQ.out; have h2 := hr5; show _ ≤ _; omega
     have HZ5 : Hid (Blk w5 KZ 31 #[.int .i64 20, .string ⟨tx.toArray⟩, .int .i64 nu, .slice xn m cn, .slice xk k.len ck, .int .i64 ps]) := (hb5.block _ HZQ.out.lt).trans HZQ.out
     clear hb5 hk5 hr5 HBQ HRQ HZQ HSQ hKZ
     refine wpAnyH_ready (rs := [4]) (by kernel_rfl) (by simp) ?rs22
     refine AllReadyH.cons (o := ⟨some 54, Op.call { callee := Callee.builtin Builtin.append, args := #[Operand.tmp 51, Operand.tmp 53], argTypes := #[22, 22] }, 22, _, _, none⟩) rfl (fun K hK => ?ss22) AllReadyH.nil
     refine pstep_appB (n := n) el_syn HK5.out HL.out (fun _ _ => rfl) HT5.out (Nat.zero_le _) HZ5.out rfl rfl (by rfl) (by rfl) (by omega) (by unfold maxLen; omega) ?_
     intro r2 cap2 w6 hk6 hg6
     refine hK.out _ _ trivial (fun _ => ?_)
     clear hK K
     try simp only [Act.put, zs1, zs2, zs3]
     have HB6 : Hid (Below wd.heap.size wd w6) := below_grown HBX.out hg6 (r := r1) rfl HRG.out HBX.out.size
     have HF6 : Hid (FRow w6 (.slice (some ⟨r2, 0, none⟩) (n + 1) cap2) (F.app (.cons ⟨20, tx, nu, nm, ps⟩ k .nil))) := (hk6.frow).sub (unmask _ _)
     have HCQ := zH (check_any _ _ w6 HF6.out HFO.out HMX.out)
     unfold chkV at HCQ
     rw [HDU.out] at HCQ
     clear hk6 hg6 HK5 HT5 HBX HRG HF6
     refine wpAnyH_ready (rs := [5]) (by kernel_rfl) (by simp) ?rs23
     refine AllReadyH.cons (o := ⟨some 55, Op.call { callee := Callee.value (Operand.func 8), args := #[Operand.tmp 54], argTypes := #[22] }, 24, _, _, none⟩) rfl (fun K hK => ?ss23) AllReadyH.nil
     go_simp
     refine HCQ.out.mono ?_
     rintro e w7 ⟨rfl, hb7⟩
     have HB7 := zH (HB6.out.trans (hb7.mono HB6.out.size))
     clear hb7 HCQ HB6
     refine hK.out _ _ trivial (fun _ => ?_)
     clear hK K
     refine wpAnyH_take (i := 6) (oi := ⟨some 49, Op.move (Operand.tmp 55), 24, _, _, none⟩) (v := ?vs24) rfl (by kernel_rfl) (by kernel_rfl) (by kernel_rfl) (fun _ _ _ h => h) (Or.inl ⟨by rfl, ?ys24⟩) hS ?rs24
     case ys24 => (intro w hSw; (try dsimp only at hSw); go_simp; try with_reducible rfl)
     try simp only [Act.put, zs1, zs2, zs3]
     refine wpAnyH_take (i := 7) (oi := ⟨some 56, Op.extract (Operand.tmp 49) 0, 3, _, _, none⟩) (v := ?vs25) rfl (by kernel_rfl) (by kernel_rfl) (by kernel_rfl) (fun _ _ _ h => h) (Or.inl ⟨by rfl, ?ys25⟩) hS ?rs25
     case ys25 => (intro w hSw; (try dsimp only at hSw); go_simp; try with_reducible rfl)
     try simp only [Act.put, zs1, zs2, zs3]
     refine wpAnyH_take (i := 8) (oi := ⟨some 57, Op.extract (Operand.tmp 49) 1, 23, _, _, none⟩) (v := ?vs26) rfl (by kernel_rfl) (by kernel_rfl) (by kernel_rfl) (fun _ _ _ h => h) (Or.inl ⟨by rfl, ?ys26⟩) hS ?rs26
     case ys26 => (intro w hSw; (try dsimp only at hSw); go_simp; try with_reducible rfl)
     try simp only [Act.put, zs1, zs2, zs3]
     refine wpAnyH_take (i := 9) (oi := ⟨some 11, Op.assign (Operand.tmp 56), 3, _, _, none⟩) (v := ?vs27) rfl (by kernel_rfl) (by kernel_rfl) (by kernel_rfl) (fun _ _ _ h => h) (Or.inl ⟨by rfl, ?ys27⟩) hS ?rs27
     case ys27 => (intro w hSw; (try dsimp only at hSw); go_simp; try with_reducible rfl)
     try simp only [Act.put, zs1, zs2, zs3]
     refine wpAnyH_take (i := 10) (oi := ⟨some 12, Op.assign (Operand.tmp 57), 23, _, _, none⟩) (v := ?vs28) rfl (by kernel_rfl) (by kernel_rfl) (by kernel_rfl) (fun _ _ _ h => h) (Or.inl ⟨by rfl, ?ys28⟩) hS ?rs28
     case ys28 => (intro w hSw; (try dsimp only at hSw); go_simp; try with_reducible rfl)
     try simp only [Act.put, zs1, zs2, zs3]
     refine wpAnyH_done (by kernel_rfl) ?_ _
     have HBZ := zH (HBD.out.trans (HB7.out.mono HBD.out.size))
     have HRZ := zH (HRD.out.below HB7.out)
     have HKZ : Hid (Blk w7 KB 31 #[.int .i64 20, .string ⟨tx.toArray⟩, .int .i64 nu, .slice xn m cn, .slice xk k.len ck, .int .i64 ps]) := (HB7.out.block _ HKD.out.lt).trans HKD.out
     have y5 : w7.cell? ⟨KB, 5, none⟩ = some (.int .i64 ps) := HKZ.out.cell 5
     clear HB7 HBD HRD HKD HTD
     go_wp2_with fail
     go_roundw
     case rel => exact ⟨i + 1, _, r, by go_num, by omega, by rw [HN2.out], HNX, HBZ.out, HRZ.out⟩
     case measure => simp [intOf]; omega
end Go.Proofs.YtbaidkefobhipaaGreatDoor
