import Derived.Test.YtggaimcopbjdiaaPostOrd
set_option linter.unusedVariables false
set_option linter.unusedSimpArgs false
set_option maxRecDepth 10000
namespace Go.Proofs.Ytggaimcopbjdiaa.Graph
open Go.Proofs.Ytggaimcopbjdiaa.AM Go.Proofs.Ytggaimcopbjdiaa.Post
def ofN : Option Nat → Int
 | some b => (b : Int)
 | none => -1
structure NeR (n : Nat) (ne : List Int) (nr : Nat → Option Nat) : Prop where
 len : ne.length = n
 at' : ∀ a, a < n → ne.getD a 0 = ofN (nr a)
structure PlR (n : Nat) (pls : List Int) (pl : Nat → Nat) (L : Nat → Prop) : Prop where
 len : pls.length = n
 at' : ∀ a, L a → pls.getD a 0 = ((pl a : Nat) : Int)
def mH (n : Nat) (pls ne : List Int) (full : Bool) : PH := [.cel [.vec 1 2 n], .cel [.exv 1 3 n], .vec 1 n (rowI .i64 pls) full, .vec 1 n (rowI .i64 ne) full]
structure Meet (x : Nat) (nr : Nat → Option Nat) (a b m : Nat) : Prop where
 l : Ch x nr a m
 r : Ch x nr b m
 low : ∀ q, Ch x nr a q → Ch x nr b q → Ch x nr m q
section
variable {x n : Nat} {nx : Nat → List Nat} {pl : Nat → Nat} {L : Nat → Prop} {p : Nat → Nat} {nr : Nat → Option Nat} {pls ne : List Int}
structure Jn (x : Nat) (nr : Nat → Option Nat) (a0 b0 a b : Nat) : Prop where
 l : Ch x nr a0 a
 r : Ch x nr b0 b
 com : ∀ q, Ch x nr a0 q → Ch x nr b0 q → Ch x nr a q ∧ Ch x nr b q
theorem Jn.up (ok : Ok x nx pl L nr) (od : Ord x nx pl L p) {a0 b0 a b : Nat} (h : Jn x nr a0 b0 a b) (hlt : pl b < pl a) : ∃ a', a ≠ x ∧ nr a = some a' ∧ pl a' < pl a ∧ L a' ∧ Jn x nr a0 b0 a' b := by
 have hax : a ≠ x := fun e => by rw [e, od.px] at hlt; omega
 obtain ⟨a', e⟩ := Option.isSome_iff_exists.1 h.l.dst
 obtain ⟨h1, h2⟩ := ok.lt a a' hax e
 refine ⟨a', hax, e, h1, (ok.inl _ _ e).2, h.l.trans (.step hax e (.refl h2)), h.r, fun q q1 q2 => ?_⟩
 obtain ⟨c1, c2⟩ := h.com q q1 q2
 refine ⟨?_, c2⟩
 cases c1 with
 | refl _ => have := c2.le ok; omega
 | step _ e' t => rw [e] at e'; cases e'; exact t
theorem Jn.symm {a0 b0 a b : Nat} (h : Jn x nr a0 b0 a b) : Jn x nr b0 a0 b a := ⟨h.r, h.l, fun q q1 q2 => (h.com q q2 q1).symm⟩
theorem meet_ok (ok : Ok x nx pl L nr) (od : Ord x nx pl L p) (hL : ∀ a, L a → a < n) (hn : NeR n ne nr) (hp : PlR n pls pl L) (hs : n < 10000000) {a0 b0 : Nat} (ha : (nr a0).isSome = true) (hb : (nr b0).isSome = true) (full : Bool) :
  PCall E [0, 1, 2, 3] 66 [i64 (a0 : Nat), i64 (b0 : Nat), .ptr 0 0, .ptr 1 0] (mH n pls ne full) (fun v hp => (∃ m, v = i64 (m : Nat) ∧ Meet x nr a0 b0 m) ∧ hp = mH n pls ne full) := by
 have hlt : ∀ {a q : Nat}, Ch x nr a q → q < n := fun h => hL _ (h.inl ok).2
 refine p_fn ?_
 show PTri E false _ _ [i64 (a0 : Nat), i64 (b0 : Nat), .ptr 0 0, .ptr 1 0, .junk, .junk, .junk, .junk] _ _
 refine s_run ?_
 refine s_loop (ι := Nat × Nat) (fun i => Jn x nr a0 b0 i.1 i.2) (fun i => pl i.1 + pl i.2) (fun i => [i64 (i.1 : Nat), i64 (i.2 : Nat), .ptr 0 0, .ptr 1 0, .junk, .junk, .junk, .junk]) (fun _ => mH n pls ne full) (a0, b0) ⟨.refl ha, .refl hb, fun q q1 q2 => ⟨q1, q2⟩⟩ (σ := [some 0, some 1, some 2, some 3]) (wk _ [] _ _ (blks := .cons (.cel rfl (by simp) rfl (.cons (.one (.vec rfl rfl)) .nil)) (.cons (.cel rfl (by simp) rfl (.cons (.one (.exv rfl rfl)) .nil)) (.cons bs_same (.cons bs_same .nil))))) ?_
 rintro ⟨a, b⟩ hJ
 simp only at hJ
 have wkm : ∀ {T T' : List PV}, VSubs [some 0, some 1, some 2, some 3] [] (mH n pls ne full) T T' → Weak [0, 1, 2, 3] [some 0, some 1, some 2, some 3] [] T (mH n pls ne full) T' (mH n pls ne full) := fun h => wk _ [] _ _ (vals := h) (blks := .cons (.cel rfl (by simp) rfl (.cons (.one (.vec rfl rfl)) .nil)) (.cons (.cel rfl (by simp) rfl (.cons (.one (.exv rfl rfl)) .nil)) (.cons bs_same (.cons bs_same .nil))))
 refine s_ass (s_run ?_)
 refine s_cond (fun h1 => ?_) (fun h1 => ?_)
 ·simp only [bne_iff_ne, ne_eq] at h1
  have hab : a ≠ b := fun e => h1 (by rw [e])
  refine s_skip (p_block ?_)
  refine s_loop (fun a' => Jn x nr a0 b0 a' b ∧ (a' = a ∨ pl a' < pl a)) (fun a' => pl a') (fun a' => [i64 (a' : Nat), i64 (b : Nat), .ptr 0 0, .ptr 1 0, .junk, .junk, .junk, .junk]) (fun _ => mH n pls ne full) a ⟨hJ, .inl rfl⟩ (σ := [some 0, some 1, some 2, some 3]) (wkm (by repeat' (first | exact VSubs.nil | apply VSubs.cons | exact VSub.one (VSub1.junk _) | exact VSub.nlv rfl | exact VSub.one (VSub1.ptr rfl)))) ?_
  rintro a' ⟨hJ1, ho1⟩
  have ha' := hlt hJ1.l
  have hb' := hlt hJ1.r
  unfold mH
  refine s_ass (d_run ?_)
  rw [hp.at' a' (hJ1.l.inl ok).2, hp.at' b (hJ1.r.inl ok).2]
  refine s_cond (fun h2 => ?_) (fun h2 => ?_)
  ·simp only [gt_iff_lt, decide_eq_true_eq] at h2
   obtain ⟨a2, q1, q2, q3, q4, q5⟩ := hJ1.up ok od (by omega)
   refine s_skip (p_block (e_reg (g_run 3 ?_)))
   rw [hn.at' a' ha', q2]
   refine g_end ?_
   exact lp_next a2 ⟨q5, .inr (by rcases ho1 with rfl | h <;> omega)⟩ (σ := [some 0, some 1, some 2, some 3]) (wkm (by repeat' (first | exact VSubs.nil | apply VSubs.cons | exact VSub.one (VSub1.junk _) | exact VSub.nlv rfl | exact VSub.one (VSub1.ptr rfl)))) q3
  ·simp only [gt_iff_lt, decide_eq_false_iff_not] at h2
   refine s_exit ?_
   refine e_loop (fun b' => Jn x nr a0 b0 a' b' ∧ (b' = b ∨ pl b' < pl b)) (fun b' => pl b') (fun b' => [i64 (a' : Nat), i64 (b' : Nat), .ptr 0 0, .ptr 1 0, .junk, .junk, .junk, .junk]) (fun _ => mH n pls ne full) b ⟨hJ1, .inl rfl⟩ (σ := [some 0, some 1, some 2, some 3]) (wkm (by repeat' (first | exact VSubs.nil | apply VSubs.cons | exact VSub.one (VSub1.junk _) | exact VSub.nlv rfl | exact VSub.one (VSub1.ptr rfl)))) ?_
   rintro b' ⟨hJ2, ho2⟩
   have hb2 := hlt hJ2.r
   unfold mH
   refine s_ass (d_run ?_)
   rw [hp.at' a' (hJ2.l.inl ok).2, hp.at' b' (hJ2.r.inl ok).2]
   refine s_cond (fun h3 => ?_) (fun h3 => ?_)
   ·simp only [gt_iff_lt, decide_eq_true_eq] at h3
    obtain ⟨b2, q1, q2, q3, q4, q5⟩ := hJ2.symm.up ok od (by omega)
    refine s_skip (p_block (e_reg (g_run 3 ?_)))
    rw [hn.at' b' hb2, q2]
    refine g_end ?_
    exact lp_next b2 ⟨q5.symm, .inr (by rcases ho2 with rfl | h <;> omega)⟩ (σ := [some 0, some 1, some 2, some 3]) (wkm (by repeat' (first | exact VSubs.nil | apply VSubs.cons | exact VSub.one (VSub1.junk _) | exact VSub.nlv rfl | exact VSub.one (VSub1.ptr rfl)))) q3
   ·simp only [gt_iff_lt, decide_eq_false_iff_not] at h3
    refine s_exit ?_
    have hdec : pl a' + pl b' < pl a + pl b := by
     rcases ho1 with rfl | q1
     ·rcases ho2 with rfl | q2
      ·exact absurd (od.inj _ _ (hJ2.l.inl ok).2 (hJ2.r.inl ok).2 (by omega)) hab
      ·omega
     ·rcases ho2 with rfl | q2 <;> omega
    exact lp_next (a', b') hJ2 (σ := [some 0, some 1, some 2, some 3]) (wkm (by repeat' (first | exact VSubs.nil | apply VSubs.cons | exact VSub.one (VSub1.junk _) | exact VSub.nlv rfl | exact VSub.one (VSub1.ptr rfl)))) hdec
 ·simp only [bne_eq_false_iff_eq] at h1
  have hab : a = b := by omega
  subst hab
  refine s_exit ?_
  refine s_run ?_
  exact p_ret (fin ⟨⟨a, rfl, hJ.l, hJ.r, fun q q1 q2 => (hJ.com q q1 q2).1⟩, rfl⟩)
end
end Go.Proofs.Ytggaimcopbjdiaa.Graph
