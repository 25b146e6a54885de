import Derived.Test.YtggaimcopbjdiaaPostRd
set_option linter.unusedVariables false
set_option linter.unusedSimpArgs false
set_option maxRecDepth 10000
namespace Go.Proofs.Ytggaimcopbjdiaa.Graph
open Go.Proofs.Ytggaimcopbjdiaa.AM Go.Proofs.Ytggaimcopbjdiaa.Post
def tE0 (f : Fn) (x1 x4 x5 x19 x20 x21 : PV) : List PV := [encF f, x1, .s (.slice none 0 0), i64 (f.code.length + 1 : Nat), x4, x5, .junk, .junk, .junk, .junk, .junk, .junk, .junk, .junk, .junk, .junk, .junk, .junk, .junk, x19, x20, x21, .junk, .junk, .junk, .junk, .junk, .junk, .junk, .junk, .junk, .junk, .junk, .junk, .junk, .junk, .junk, .junk, .junk, .junk, .junk]
def tE1 (n : Nat) (l : List Nat) (x11 x12 x22 x23 x25 x26 x27 : PV) : List PV := [.junk, .junk, .junk, i64 (n : Nat), .junk, .ptr 0 0, .junk, .junk, .frz 1 l.length l.length (rowI .i64 (natI l)), .ptr 1 0, .ptr 2 0, x11, x12, .junk, .junk, .junk, .junk, .junk, .junk, .junk, .junk, .junk, x22, x23, .junk, x25, x26, x27, .junk, .junk, .junk, .junk, .junk, .junk, .junk, .junk, .junk, .junk, .junk, .junk, .junk]
def Tabs (f : Fn) (rc : PB) (k : Nat) (hp : PH) : Prop :=
 hp[0]? = some (.cel (cellsF f)) ∧ hp[2]? = some (.cel [.vec 1 1 (f.code.length + 1)]) ∧ hp[3]? = some (.cel [.vec 1 4 (f.code.length + 1)]) ∧ hp[5]? = some rc ∧ 6 ≤ hp.length ∧ ∃ S1 S2 : Nat → Prop, (∀ j, S1 j → 6 ≤ j ∧ j < hp.length ∧ ¬ S2 j) ∧ (∀ j, S2 j → 6 ≤ j ∧ j < hp.length) ∧
  TabIn hp 1 (f.code.length + 1) (fun j : Nat => leadN ((edgesL f.code).take k) (j : Int)) S1 ∧ TabIn hp 4 (f.code.length + 1) (fun j : Nat => trailN ((edgesL f.code).take k) (j : Int)) S2
theorem bkN_len {code : List (Int × Int)} {a : Nat} : (bkN code a).length ≤ code.length := by
 have := aheadN_len code (a : Nat) code.length
 unfold bkN
 rw [List.length_map]
 exact this
theorem ne_fill {n k : Nat} {ne : List Int} (hl : ne.length = n) (h : ∀ j, j < k → ne.getD j 0 = -1) (hk : k < n) : (ne.set k (-1)).length = n ∧ ∀ j, j < k + 1 → (ne.set k (-1)).getD j 0 = -1 := by
 refine ⟨by rw [List.length_set]; exact hl, fun j hj => ?_⟩
 rw [List.getD_eq_getElem?_getD]
 by_cases e : j = k
 ·subst e; rw [List.getElem?_set_self (by omega)]; rfl
 ·rw [List.getElem?_set_ne (Ne.symm e), ← List.getD_eq_getElem?_getD]; exact h j (by omega)
theorem pl_fill {n k a : Nat} {l : List Nat} {pls : List Int} (hl : pls.length = n) (hd : l.Nodup) (h : ∀ j b, j < k → l[j]? = some b → pls.getD b 0 = (j : Nat)) (ha : l[k]? = some a) (han : a < n) : (pls.set a (k : Nat)).length = n ∧ ∀ j b, j < k + 1 → l[j]? = some b → (pls.set a (k : Nat)).getD b 0 = (j : Nat) := by
 refine ⟨by rw [List.length_set]; exact hl, fun j b hj hb => ?_⟩
 rw [List.getD_eq_getElem?_getD]
 by_cases e : b = a
 ·subst e
  have : j = k := by
   have h1 := ix_of hd hb
   have h2 := ix_of hd ha
   omega
  subst this
  rw [List.getElem?_set_self (by omega)]; rfl
 ·rw [List.getElem?_set_ne (Ne.symm e), ← List.getD_eq_getElem?_getD]
  refine h j b ?_ hb
  have : j ≠ k := fun q => e (by rw [q, ha] at hb; exact (Option.some.inj hb).symm)
  omega
theorem pl_done {code : List (Int × Int)} {l : List Nat} {pls : List Int} (ho : OrdL (code.length + 1) code.length (bkN code) l) (hl : pls.length = code.length + 1) (h : ∀ j b, j < l.length → l[j]? = some b → pls.getD b 0 = (j : Nat)) : PlR (code.length + 1) pls (ix l) (Ex code) :=
 ⟨hl, fun a ha => h _ a (place_lt ho ha).1 (place_lt ho ha).2⟩
theorem ne_init {code : List (Int × Int)} {ne : List Int} (hl : ne.length = code.length + 1) (h : ∀ j, j < code.length + 1 → ne.getD j 0 = -1) : NeR (code.length + 1) (ne.set code.length (code.length : Nat)) (Post.init code.length) := by
 refine ⟨by rw [List.length_set]; exact hl, fun a ha => ?_⟩
 unfold Post.init
 rw [List.getD_eq_getElem?_getD]
 by_cases e : a = code.length
 ·subst e
  rw [List.getElem?_set_self (by omega), if_pos rfl]; rfl
 ·rw [List.getElem?_set_ne (Ne.symm e), if_neg e, ← List.getD_eq_getElem?_getD]
  exact h a ha
theorem zrow (n : Nat) {i : Nat} (hi : i < n) : [PV.s (.int .i64 0)] = rowI .i64 (List.replicate n 0) i := by
 unfold rowI
 rw [List.getD_eq_getElem?_getD, List.getElem?_replicate, if_pos hi]; rfl
theorem tree0_ok {f : Fn} (hf : Fit f.code) : PTri E false [] scB [encF f, .ptr 0 0, .s (.slice none 0 0), .junk, .junk, .junk, .junk, .junk, .junk, .junk, .junk, .junk, .junk, .junk, .junk, .junk, .junk, .junk, .junk, .junk, .junk, .junk, .junk, .junk, .junk, .junk, .junk, .junk, .junk, .junk, .junk, .junk, .junk, .junk, .junk, .junk, .junk, .junk, .junk, .junk, .junk] [.cel (cellsF f)] (gotoQ 0 (LI f.code) (fun i => tot (f.code.length + 1) i.1 i.2.2.1) (fun i => tI (f.code.length + 1) i.1 .junk) (fun i => tH f.code i.2.1 i.2.2.2) [] none (wkQ [] (retQ [.tmp 2] (treeQ f.code)))) := by
 have f1 := hf.len
 have f2 := edgesL_len f.code
 refine s_reg (g_run 3 ?_)
 refine g_run 1 ?_
 refine prg_head (v' := i64 (f.code.length + 1 : Nat)) rfl ?_
 refine g_end ?_
 refine s_drw ?_
 refine g_end ?_
 refine s_ass (s_reg (g_run 1 ?_))
 refine g_call (edgesE_ok hf) ?_
 rintro v rfl
 refine ⟨rfl, ?_⟩
 refine g_end ?_
 have hcl : ∀ j c, (List.replicate (f.code.length + 1) (PV.s (.slice none 0 0)))[j]? = some c → (List.map PV.s [Value.slice none 0 0]) = [c] := fun j c h => by
  rw [List.getElem?_replicate] at h
  split at h
  ·cases h; rfl
  ·cases h
 refine p_weak [some 0, some 1, some 2, some 3, some 4] [] (wk _ [] (tE0 f (.ptr 0 0) (.ptr 2 0) (.ptr 3 0) (seqF f.code) .junk .junk) [.cel (cellsF f), .cel (List.replicate (f.code.length + 1) (.s (.slice none 0 0))), .cel [.vec 1 1 (f.code.length + 1)], .cel [.vec 1 4 (f.code.length + 1)], .cel (List.replicate (f.code.length + 1) (.s (.slice none 0 0)))] (blks := .cons bs_cel (.cons (.veccel rfl (by decide) rfl (Nat.succ_pos _) (by simp) hcl) (.cons (.cel rfl (by decide) rfl (.cons (.one (.vec rfl rfl)) .nil)) (.cons (.cel rfl (by decide) rfl (.cons (.one (.vec rfl rfl)) .nil)) (.cons (.veccel rfl (by decide) rfl (Nat.succ_pos _) (by simp) hcl) .nil)))))) ?_
 refine s_block ?_
 obtain ⟨rc, hrc⟩ : ∃ rc, lrec ChartAwake.c58.body 0 (tE0 f (.ptr 0 0) (.ptr 2 0) (.ptr 3 0) (seqF f.code) .junk .junk) .ready none = rc := ⟨_, rfl⟩
 refine p_range [5, 0, 1, 2, 3, 4] (PCall.mono (edges1_ok hf [0, 1, 2, 3, 4] (S := Tabs f rc) (S' := fun _ => False) ?_ ?_) ?_)
 ·rintro k hp x y he ⟨h0, h2, h3, h5, hl, S1, S2, d1, d2, r1, r2⟩
  have hkl := (List.getElem?_eq_some_iff.1 he).1
  have htk : (edgesL f.code).take (k + 1) = (edgesL f.code).take k ++ [(x, y)] := by
   rw [List.take_add_one, he]; rfl
  obtain ⟨a, b, hxy, hak, hbm⟩ := edgesN_mem (Nat.le_refl _) (List.mem_of_getElem? he)
  cases hxy
  have hln := leadN_len ((edgesL f.code).take k) (b : Int)
  have hlt' := trail_len ((edgesL f.code).take k) (a : Int)
  have hlt : ((edgesL f.code).take k).length ≤ 2 * f.code.length := Nat.le_trans (by rw [List.length_take]; exact Nat.min_le_right _ _) f2
  have hbn : b < f.code.length + 1 := by
   have := next_lt (code := f.code) (a := (a : Int)) (c := (b : Int)) (by rw [nextI_nat hak]; exact hbm)
   obtain ⟨k', e1, e2⟩ := this
   omega
  have hl5 : 5 < hp.length := by omega
  subst hrc
  refine p_round (by decide) h5 rfl ?_
  refine s_pure ?_
  refine e_pure ?_
  refine ⟨rfl, _, h5, ?_⟩
  refine p_block (p_seq (d_vvpush2 (t4 := 4) (t5 := 6) (t6 := 7) (kb := 2) (bk := 1) (n := f.code.length + 1) (i := b) (x := (a : Int)) (S := S1) rfl rfl rfl hbn (by rw [List.getElem?_set_ne (by decide)]; exact h2) (r1.keep (by rw [List.getElem?_set_ne (by decide)]) (fun j h1 _ => by rw [List.getElem?_set_ne (by have := d1 j h1; omega)]) fun j h => h) (by decide) (fun h => by have := d1 2 h; omega) (fun h => by have := d1 1 h; omega) (by simp only [room]; omega) fun hp1 hl1 ho1 hr1 => ?_))
  rw [List.length_set] at hl1 ho1 hr1
  have o1 : ∀ j, j < hp.length → ¬ S1 j → j ≠ 1 → j ≠ 5 → hp1[j]? = hp[j]? := fun j q1 q2 q3 q4 => by rw [ho1 j q1 q2 q3, List.getElem?_set_ne (Ne.symm q4)]
  have n1 : ∀ j, j < 6 → ¬ S1 j := fun j q h => by have := d1 j h; omega
  have n2 : ∀ j, j < 6 → ¬ S2 j := fun j q h => by have := d2 j h; omega
  refine d_vvpush2 (t4 := 5) (t5 := 7) (t6 := 6) (kb := 3) (bk := 4) (n := f.code.length + 1) (i := a) (x := (b : Int)) (S := S2) rfl rfl rfl (by omega) (by rw [o1 3 (by omega) (n1 3 (by decide)) (by decide) (by decide)]; exact h3) (r2.keep (o1 4 (by omega) (n1 4 (by decide)) (by decide) (by decide)) (fun j q1 q2 => o1 j q2 (fun q => (d1 j q).2.2 q1) (by have := d2 j q1; omega) (by have := d2 j q1; omega)) fun j h => h) (by decide) (n2 3 (by decide)) (n2 4 (by decide)) (by simp only [room]; omega) fun hp2 hl2 ho2 hr2 => ?_
  have o2 : ∀ j, j < hp.length → ¬ S1 j → ¬ S2 j → j ≠ 1 → j ≠ 4 → j ≠ 5 → hp2[j]? = hp[j]? := fun j q1 q2 q3 q4 q5 q6 => by rw [ho2 j (by omega) q3 q5, o1 j q1 q2 q4 q6]
  have g5 := ho2 5 (by omega) (n2 5 (by decide)) (by decide)
  rw [ho1 5 (by omega) (n1 5 (by decide)) (by decide)] at g5
  rw [List.getElem?_set_self hl5] at g5
  have hl' := (List.getElem?_eq_some_iff.1 g5).1
  refine ⟨_, g5, .inl ⟨rfl, ?_⟩⟩
  have b1 := hr1.bound
  refine ⟨by rw [List.getElem?_set_ne (by decide), o2 0 (by omega) (n1 0 (by decide)) (n2 0 (by decide)) (by decide) (by decide) (by decide), h0], by rw [List.getElem?_set_ne (by decide), o2 2 (by omega) (n1 2 (by decide)) (n2 2 (by decide)) (by decide) (by decide) (by decide), h2], by rw [List.getElem?_set_ne (by decide), o2 3 (by omega) (n1 3 (by decide)) (n2 3 (by decide)) (by decide) (by decide) (by decide), h3], List.getElem?_set_self hl', by rw [List.length_set]; omega, fun j => (S1 j ∨ hp.length ≤ j) ∧ j < hp1.length, fun j => (S2 j ∨ hp1.length ≤ j) ∧ j < hp2.length, fun j hj => ?_, fun j hj => ?_, ?_, ?_⟩
  ·rw [List.length_set]
   refine ⟨?_, by omega, ?_⟩
   ·rcases hj.1 with q | q
    ·exact (d1 j q).1
    ·omega
   ·rintro ⟨q | q, q'⟩
    ·rcases hj.1 with w | w
     ·exact (d1 j w).2.2 q
     ·have := (d2 j q).2; omega
    ·omega
  ·rw [List.length_set]
   refine ⟨?_, hj.2⟩
   rcases hj.1 with q | q
   ·exact (d2 j q).1
   ·omega
  ·rw [htk, lead_push]
   refine b1.keep (by rw [List.getElem?_set_ne (by decide), ho2 1 (by omega) (n2 1 (by decide)) (by decide)]) (fun j q1 q2 => ?_) fun j q => q
   have hj2 : ¬ S2 j := fun q => by
    rcases q1.1 with w | w
    ·exact (d1 j w).2.2 q
    ·have := (d2 j q).2; omega
   have hj6 : 6 ≤ j := by
    rcases q1.1 with w | w
    ·exact (d1 j w).1
    ·omega
   rw [List.getElem?_set_ne (by omega), ho2 j q2 hj2 (by omega)]
  ·rw [htk, trail_push]
   exact hr2.bound.keep (by rw [List.getElem?_set_ne (by decide)]) (fun j q1 q2 => by
    have hj6 : 6 ≤ j := by
     rcases q1.1 with w | w
     ·exact (d2 j w).1
     ·omega
    rw [List.getElem?_set_ne (by omega)]) fun j q => q
 ·subst hrc
  exact ⟨rfl, rfl, rfl, rfl, Nat.le_refl 6, fun _ => False, fun _ => False, fun _ h => h.elim, fun _ h => h.elim, TabIn.start rfl, TabIn.start rfl⟩
 ·rintro v hp (h | h)
  ·obtain ⟨h0, h2, h3, h5, hl, S1, S2, d1, d2, r1, r2⟩ := h
   subst hrc
   refine ⟨_, .norm, h5, ?_⟩
   rw [List.take_length] at r1 r2
   have e1 : (fun j : Nat => leadN (edgesL f.code) (j : Int)) = fun j : Nat => aheadI f.code (j : Int) := funext fun j => lead_ahead (Nat.le_refl _)
   have e2 : (fun j : Nat => trailN (edgesL f.code) (j : Int)) = fun j : Nat => nextI f.code (j : Int) := funext fun j => by rw [trail_all, next_nat]
   rw [e1] at r1
   rw [e2] at r2
   have n1 : ∀ j, j < 6 → ¬ S1 j := fun j q h => by have := d1 j h; omega
   have n2 : ∀ j, j < 6 → ¬ S2 j := fun j q h => by have := d2 j h; omega
   have g0 : (hp.set 5 PB.dead)[0]? = some (.cel (cellsF f)) := by rw [List.getElem?_set_ne (by decide)]; exact h0
   have g2 : (hp.set 5 PB.dead)[2]? = some (.cel [.vec 1 1 (f.code.length + 1)]) := by rw [List.getElem?_set_ne (by decide)]; exact h2
   have g3 : (hp.set 5 PB.dead)[3]? = some (.cel [.vec 1 4 (f.code.length + 1)]) := by rw [List.getElem?_set_ne (by decide)]; exact h3
   have gr1 := r1.keep (hp' := hp.set 5 PB.dead) (by rw [List.getElem?_set_ne (by decide)]) (fun j q _ => by rw [List.getElem?_set_ne (by have := d1 j q; omega)]) fun j q => q
   have gr2 := r2.keep (hp' := hp.set 5 PB.dead) (by rw [List.getElem?_set_ne (by decide)]) (fun j q _ => by rw [List.getElem?_set_ne (by have := d2 j q; omega)]) fun j q => q
   obtain ⟨fz1, z1, z2, z3⟩ := gr1.frz
   obtain ⟨fz2, w1, w2, w3⟩ := gr2.frz
   show PTri E false [] _ (tE0 f (.ptr 0 0) (.ptr 2 0) (.ptr 3 0) (seqF f.code) .junk .junk) (hp.set 5 PB.dead) _
   generalize hp.set 5 PB.dead = hq at g0 g2 g3 gr1 gr2 z3 w3 ⊢
   have m1 : ∀ j, j ≠ 1 → j ≠ 4 → j < 6 → j ∉ fz1 ++ fz2 := fun j q1 q2 q3 h => by
    rcases List.mem_append.1 h with h | h
    ·rcases z2 j h with e | e
     ·exact q1 e
     ·exact n1 j q3 e
    ·rcases w2 j h with e | e
     ·exact q2 e
     ·exact n2 j q3 e
   refine p_weak [some 2, some 3] (fz1 ++ fz2) (wk _ (fz1 ++ fz2) (tE0 f .junk (.ptr 0 0) (.ptr 1 0) .junk .junk .junk) [.cel [.frz 1 (f.code.length + 1) (f.code.length + 1) fun i => [encI (aheadI f.code (i : Nat))]], .cel [nextP f.code]] (vals := ?_) (blks := .cons (.cel rfl (m1 2 (by decide) (by decide) (by decide)) g2 (.cons (.one (z3 _ _ fun b h => List.mem_append_left _ h)) .nil)) (.cons (.cel rfl (m1 3 (by decide) (by decide) (by decide)) g3 (.cons (.one (w3 _ _ fun b h => List.mem_append_right _ h)) .nil)) .nil))) ?_
   ·unfold tE0
    repeat' (first | exact VSubs.nil | apply VSubs.cons | exact VSub.one (VSub1.junk _) | exact VSub.nlv rfl | exact VSub.one (VSub1.ptr rfl))
   refine s_reg (g_run 1 ?_)
   refine g_call (order_ok (x := f.code.length) (rows := bkN f.code) (fun a _ c hc => by have := bk_lt hc; omega) (B := f.code.length) (fun a _ => bkN_len) hf.len hf.len (fun a _ => (ahead_nat f.code a).symm)) ?_
   rintro v ⟨l, ho, rfl⟩
   refine ⟨rfl, ?_⟩
   refine g_end ?_
   have hl1 : 1 ≤ l.length := by obtain ⟨t, e⟩ := ho.hd; rw [e]; simp
   have hln : l.length ≤ f.code.length + 1 := nodup_lt ho.nd ho.lt
   have od := ord_of ho
   refine s_run ?_
   refine s_reg ?_
   refine prg_mkx (n := f.code.length + 1) rfl rfl rfl (by constructor <;> omega) ?_
   refine g_end ?_
   have hl2 : (natI l).length = l.length := natI_len l
   refine s_ass (s_run ?_)
   refine s_loop (ι := Nat × List Int) (fun i => i.1 ≤ f.code.length + 1 ∧ i.2.length = f.code.length + 1 ∧ ∀ j, j < i.1 → i.2.getD j 0 = -1) (fun i => f.code.length + 1 - i.1) (fun i => tE1 (f.code.length + 1) l .junk .junk (i64 (f.code.length + 1 : Nat)) (i64 (i.1 : Nat)) .junk .junk .junk) (fun i => tH f.code (List.replicate (f.code.length + 1) 0) i.2) (0, List.replicate (f.code.length + 1) 0) ⟨Nat.zero_le _, by simp, fun j h => absurd h (by omega)⟩ (σ := [some 1, some 3, some 5, some 2, some 4]) (wk _ [] _ _ (vals := ?_) (blks := ?_)) ?_
   ·unfold tE1
    repeat' (first | exact VSubs.nil | apply VSubs.cons | exact VSub.one (VSub1.junk _) | exact VSub.nlv rfl | exact VSub.one (VSub1.ptr rfl) | exact VSub.one (.frz hl2 (Nat.le_refl _) (Nat.le_of_eq hl2.symm) fun _ _ => rfl))
   ·exact .cons bs_cel (.cons (.cel rfl (by simp) rfl (.cons (.one (.vec rfl rfl)) .nil)) (.cons (.cel rfl (by simp) rfl (.cons (.one (.exv rfl rfl)) .nil)) (.cons (bs_vec rfl (fun i hi => zrow _ hi)) (.cons (bs_vec rfl (fun i hi => zrow _ hi)) .nil))))
   rintro ⟨k, ne⟩ ⟨i1, i2, i3⟩
   simp only at i1 i2 i3
   unfold tE1 tH
   refine s_run ?_
   refine s_cond (fun h1 => ?_) (fun h1 => ?_)
   ·simp only [decide_eq_true_eq] at h1
    have hk : k < f.code.length + 1 := by omega
    refine s_skip (s_block ?_)
    refine s_run ?_
    refine e_run ?_
    refine e_run ?_ (hq := by (try dsimp only); simp only [in64, and_true, true_and]; omega)
    obtain ⟨j1, j2⟩ := ne_fill i2 i3 hk
    refine lp_next (k + 1, ne.set k (-1)) ⟨hk, j1, j2⟩ (wk [some 0, some 1, some 2, some 3, some 4] [] _ _ (vals := ?_) (blks := .cons bs_cel (.cons (.cel rfl (by simp) rfl (.cons (.one (.vec rfl rfl)) .nil)) (.cons (.cel rfl (by simp) rfl (.cons (.one (.exv rfl rfl)) .nil)) (.cons bs_same (.cons (bs_vec rfl fun i hi => ?_) .nil))))))
    ·try dsimp only [tE1]
     repeat' (first | exact VSubs.nil | apply VSubs.cons | exact VSub.one (VSub1.junk _) | exact VSub.nlv rfl | exact VSub.one (VSub1.ptr rfl))
    ·exact row1_set (en := i64) (d := 0) (xs := ne) (c := k) (x := -1) _ rfl (by rw [i2]; exact hi)
   ·simp only [decide_eq_false_iff_not] at h1
    have hk : f.code.length + 1 ≤ k := by omega
    refine s_exit ?_
    refine s_ass (s_run ?_)
    refine s_loop (ι := Nat × List Int) (fun i => i.1 ≤ l.length ∧ i.2.length = f.code.length + 1 ∧ ∀ j b, j < i.1 → l[j]? = some b → i.2.getD b 0 = (j : Nat)) (fun i => l.length - i.1) (fun i => tE1 (f.code.length + 1) l .junk .junk .junk .junk (.frz 1 l.length l.length (rowI .i64 (natI l))) (i64 (l.length : Nat)) (i64 (i.1 : Nat))) (fun i => tH f.code i.2 ne) (0, List.replicate (f.code.length + 1) 0) ⟨Nat.zero_le _, by simp, fun j b h => absurd h (by omega)⟩ (σ := [some 0, some 1, some 2, some 3, some 4]) (t_weak rfl (by (try dsimp only [tE1]); repeat' (first | exact VSubs.nil | apply VSubs.cons | exact VSub.one (VSub1.junk _) | exact VSub.nlv rfl | exact VSub.one (VSub1.ptr rfl)))) ?_
    rintro ⟨q, pls⟩ ⟨q1, q2, q3⟩
    simp only at q1 q2 q3
    unfold tE1 tH
    refine s_run ?_
    refine s_cond (fun h2 => ?_) (fun h2 => ?_)
    ·simp only [decide_eq_true_eq] at h2
     have hq : q < l.length := by omega
     obtain ⟨a, ha⟩ : ∃ a, l[q]? = some a := ⟨_, List.getElem?_eq_getElem hq⟩
     have han : a < f.code.length + 1 := ho.lt a (List.mem_of_getElem? ha)
     have had : (natI l).getD q 0 = ((a : Nat) : Int) := by
      rw [natI_at hq, List.getD_eq_getElem?_getD, ha]; rfl
     refine s_skip (s_block ?_)
     refine s_reg (g_run 2 ?_)
     rw [had]
     refine g_end ?_
     refine e_run ?_
     refine e_run ?_ (hq := by (try dsimp only); simp only [in64, and_true, true_and]; omega)
     obtain ⟨j1, j2⟩ := pl_fill q2 ho.nd q3 ha han
     refine lp_next (q + 1, pls.set a (q : Nat)) ⟨hq, j1, j2⟩ (wk [some 0, some 1, some 2, some 3, some 4] [] _ _ (vals := ?_) (blks := .cons bs_cel (.cons (.cel rfl (by simp) rfl (.cons (.one (.vec rfl rfl)) .nil)) (.cons (.cel rfl (by simp) rfl (.cons (.one (.exv rfl rfl)) .nil)) (.cons (bs_vec rfl fun i hi => ?_) (.cons bs_same .nil))))))
     ·try dsimp only [tE1]
      repeat' (first | exact VSubs.nil | apply VSubs.cons | exact VSub.one (VSub1.junk _) | exact VSub.nlv rfl | exact VSub.one (VSub1.ptr rfl))
     ·exact row1_set (en := i64) (d := 0) (xs := pls) (c := a) (x := ((q : Nat) : Int)) _ rfl (by rw [q2]; exact hi)
    ·simp only [decide_eq_false_iff_not] at h2
     have hpl := pl_done ho q2 fun j b hj hb => q3 j b (by omega) hb
     have hne := ne_init i2 fun j hj => i3 j (by omega)
     refine s_exit ?_
     refine s_reg (g_run 2 ?_)
     refine prg_head (v' := i64 (f.code.length : Nat)) (by unfold i64; congr 2; omega) ?_
     refine g_run 1 ?_
     refine prg_head (v' := i64 (f.code.length : Nat)) (by unfold i64; congr 2; omega) ?_
     refine g_end ?_
     refine s_run ?_
     refine s_label ?_
     refine p_weak [some 0, some 1, some 2, some 3, some 4] [] (wk _ [] (tI (f.code.length + 1) l .junk) (tH f.code pls (ne.set f.code.length (f.code.length : Nat))) (vals := ?_) (blks := .cons bs_cel (.cons (.cel rfl (by simp) rfl (.cons (.one (.vec rfl rfl)) .nil)) (.cons (.cel rfl (by simp) rfl (.cons (.one (.exv rfl rfl)) .nil)) (.cons bs_same (.cons (bs_vec rfl fun i hi => ?_) .nil)))))) ?_
     ·try dsimp only [tI, tA]
      repeat' (first | exact VSubs.nil | apply VSubs.cons | exact VSub.one (VSub1.junk _) | exact VSub.nlv rfl | exact VSub.one (VSub1.ptr rfl) | exact fn14)
     ·exact row1_set (en := i64) (d := 0) (xs := ne) (c := f.code.length) (x := ((f.code.length : Nat) : Int)) _ rfl (by rw [i2]; exact hi)
     ·exact round_ok hf ho hpl ⟨rd_first od, hne⟩ fun k hk => nomatch hk
  ·exact h.elim
theorem own_fun {g : FuncId} {args : List PV} {R : PV → Prop} {Q : PV → PH → Prop} (h : PCall E [] g args [] Q) (hq : ∀ v hp, Q v hp → ∃ fz v2, VSub [] fz hp v v2 ∧ R v2) : PFun E g args (valQ R) := by
 refine call_post (PCall.mono h ?_)
 rintro v hp hQ
 obtain ⟨fz, v2, h1, h2⟩ := hq v hp hQ
 exact ⟨[], fz, v2, [], ⟨rfl, rfl, rfl, .cons h1 .nil, .nil⟩, rfl, h2⟩
theorem treeO_ok {f : Fn} (hf : Fit f.code) : PCall E [] 58 [encF f] [] (treeQ f.code) := by
 have f1 := hf.len
 have f2 := edgesL_len f.code
 refine p_call (fun _ _ => rfl) rfl ?_
 show PTri E false [] ChartAwake.c58.body [encF f, .junk, .junk, .junk, .junk, .junk, .junk, .junk, .junk, .junk, .junk, .junk, .junk, .junk, .junk, .junk, .junk, .junk, .junk, .junk, .junk, .junk, .junk, .junk, .junk, .junk, .junk, .junk, .junk, .junk, .junk, .junk, .junk, .junk, .junk, .junk, .junk, .junk, .junk, .junk, .junk] _ _
 refine p_post ?_
 refine s_run ?_
 show PTri E false [] (.scope scB) _ _ _
 refine p_scope2 (LI f.code) (fun i => tot (f.code.length + 1) i.1 i.2.2.1) (fun i => tI (f.code.length + 1) i.1 .junk) (fun i => tH f.code i.2.1 i.2.2.2) c33r_ok ?_ ?_
 ·exact tree0_ok hf
 ·rintro ⟨l, pls, nr, ne⟩ ⟨h1, h2, h3⟩
  refine s_skip ?_
  exact round_ok hf h1 h2 h3 fun k hk => by cases hk; exact Nat.le_refl _
theorem tree_ok {f : Fn} (hf : Fit f.code) : PFun E 58 [encF f] (valQ (treeV f.code)) := own_fun (treeO_ok hf) fun v hp ⟨nr, hT, e1, e2⟩ => by
 subst e1; subst e2
 exact ⟨[0], encI (treeI f.code nr), .one (.exvf (.head _) rfl (treeI_len _ _).symm (Nat.le_refl _) fun i hi => rfl), nr, hT, rfl⟩
end Go.Proofs.Ytggaimcopbjdiaa.Graph
