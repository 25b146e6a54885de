import Derived.Test.YtggaimcopbjdiaaRegDom
set_option linter.unusedVariables false
set_option linter.unusedSimpArgs false
set_option maxRecDepth 10000
namespace Go.Proofs.Ytggaimcopbjdiaa.Graph
open Go.Proofs.Ytggaimcopbjdiaa.AM Go.Proofs.Ytggaimcopbjdiaa.Post
theorem withoutA_len (code : List (Int × Int)) (s w : Int) : (withoutL code s w).length = code.length + 1 := by
 unfold withoutL
 split
 ·simp
 ·exact reachG_len _ _ _
theorem dom_ok {f : Fn} (hf : Fit f.code) (hT : TreeR f.code (nrT f.code)) {q p : Nat} (hq : q < f.code.length + 1) (hp : p < f.code.length + 1) : PFun E 84 [encF f, i64 (q : Nat), i64 (p : Nat)] (valQ (isV (.s (.bool (pdB f.code q p))))) := by
 have f1 := hf.len
 have hd := dom_pd (q := q) hT hp
 refine p_fun ?_
 show PTri E false [] _ [encF f, i64 (q : Nat), i64 (p : Nat), .junk, .junk, .junk, .junk, .junk, .junk, .junk] _ _
 refine s_run ?_
 refine s_run ?_
 refine s_ass (s_reg (g_run 1 ?_))
 refine prg_head (v' := .s (.bool false)) (by rw [decide_eq_false (by omega)]) ?_
 refine g_run 3 ?_
 refine prg_head (v' := .s (.bool false)) (by rw [decide_eq_false (by omega)]) ?_
 refine g_run 3 ?_
 refine prg_head (v' := .s (.bool false)) (by rw [decide_eq_false (by omega)]) ?_
 refine g_run 4 ?_
 refine prg_head (v' := .s (.bool false)) (by rw [decide_eq_false (by omega)]) ?_
 refine g_end ?_
 refine s_f (s_skip ?_)
 refine s_reg (g_run 1 ?_)
 refine g_call (rreach_ok hf (p : Nat) (by unfold in64; omega)) ?_
 rintro v rfl
 refine ⟨rfl, ?_⟩
 unfold encB
 rw [reachL_len]
 refine g_end ?_
 refine s_ass (s_run ?_)
 refine s_cond (fun h => ?_) (fun h => ?_)
 ·refine s_ass (s_run ?_)
  refine s_ret ?_
  refine fin_v (hv := ?_)
  rw [Bool.not_eq_true'] at h
  rw [h] at hd
  rw [← hd]
  rfl
 rw [Bool.not_eq_false'] at h
 refine s_skip ?_
 refine s_reg (g_run 1 ?_)
 refine g_call (rwithout_ok hf (p : Nat) (q : Nat) (by unfold in64; omega) (by unfold in64; omega)) ?_
 rintro v rfl
 refine ⟨rfl, ?_⟩
 unfold encB
 rw [withoutA_len]
 refine g_end ?_
 refine s_run ?_
 refine p_ret (fin_v (hv := ?_))
 rw [h, Bool.true_and] at hd
 rw [← hd]
 rfl
noncomputable def nearD (code : List (Int × Int)) (p : Nat) : PV := match nrT code p with
 | some e => .tup [i64 (e : Nat), .s (.bool true)]
 | none => .tup [i64 0, .s (.bool false)]
noncomputable def nrV (f : Fn) (p : Nat) (x5 x6 x7 x8 x9 x13 : PV) : List PV := [encF f, i64 (p : Nat), .ptr 0 0, i64 0, .s (.bool false), x5, x6, x7, x8, x9, .junk, .junk, .junk, x13, .junk]
theorem rnear_ok {f : Fn} (hf : Fit f.code) (hT : TreeR f.code (nrT f.code)) {p : Nat} (hp : p < f.code.length) : PFun E 69 [encF f, i64 (p : Nat)] (valQ (isV (nearD f.code p))) := by
 have f1 := hf.len
 refine p_fun ?_
 show PTri E false [] _ [encF f, i64 (p : Nat), .junk, .junk, .junk, .junk, .junk, .junk, .junk, .junk, .junk, .junk, .junk, .junk, .junk] _ _
 refine s_run ?_
 refine s_run ?_
 refine s_ass (s_run ?_)
 refine s_loop (ι := Nat) (fun q => q ≤ f.code.length + 1) (fun q => f.code.length + 1 - q) (fun q => nrV f p (.vec 1 1 (strictL f.code p q).length) (i64 (q : Nat)) .junk .junk .junk .junk) (fun q => [.cel (cellsF f), .vec 1 (strictL f.code p q).length (rowI .i64 (natI (strictL f.code p q))) false]) 0 (Nat.zero_le _) (σ := [some 0, none]) (fz := []) (wk _ [] _ _ (vals := ?_) (blks := .cons bs_cel (.cons (.nil rfl) .nil))) ?_
 ·dsimp only [nrV]
  repeat' (first | exact VSubs.nil | apply VSubs.cons | exact VSub.one (VSub1.junk _) | exact VSub.one (VSub1.nil rfl) | exact VSub.nlv rfl | exact VSub.one (VSub1.ptr rfl))
 intro q hq
 have hsl := strict_len (code := f.code) (p := p) (k := q)
 unfold nrV
 refine s_ass (s_run ?_)
 refine s_cond (fun h1 => ?_) (fun h1 => ?_)
 ·simp only [decide_eq_true_eq] at h1
  have hq1 : q < f.code.length + 1 := by omega
  refine s_skip (s_block ?_)
  refine s_cut (fun T' hp' => ∃ x10, T' = [encF f, i64 (p : Nat), .ptr 0 0, i64 0, .s (.bool false), .vec 1 1 (strictL f.code p q).length, i64 (q : Nat), .junk, .junk, .junk, x10, .s (.bool (decide (q ≠ p) && pdB f.code q p)), .junk, .junk, .junk] ∧ hp' = [.cel (cellsF f), .vec 1 (strictL f.code p q).length (rowI .i64 (natI (strictL f.code p q))) false]) ?_ ?_
  ·refine e_reg (g_run 1 ?_)
   refine prg_split (fun h3 => ?_) (fun h3 => ?_)
   ·have hne : q ≠ p := fun w => by
     subst w; simp at h3
    refine g_run 3 ?_
    refine g_call (dom_ok hf hT (q := q) (p := p) hq1 (by omega)) ?_
    rintro v rfl
    refine ⟨rfl, ?_⟩
    refine prg_head (v' := .s (.bool (decide (q ≠ p) && pdB f.code q p))) (by rw [decide_eq_true hne, Bool.true_and]) ?_
    refine g_end ?_
    exact ⟨rfl, _, rfl, rfl⟩
   ·have he : q = p := by
     have : (q : Int) = (p : Int) := by simpa using h3
     omega
    refine g_end ?_
    exact ⟨rfl, _, by rw [show (decide (q ≠ p) && pdB f.code q p) = false by rw [decide_eq_false (fun w => w he), Bool.false_and]], rfl⟩
  rintro T' hp' ⟨x10, rfl, rfl⟩
  refine e_cond (fun h3 => ?_) (fun h3 => ?_)
  ·have hs := strict_succ (code := f.code) (p := p) (k := q)
   rw [if_pos h3] at hs
   refine e_run (hq := by simp only [room, true_and, and_true]; omega) ?_
   refine e_run ?_
   refine lp_next (q + 1) (by omega) (σ := [some 0, some 3]) (fz := []) ?_
   show Weak _ _ _ _ _ (nrV f p (.vec 1 1 (strictL f.code p (q + 1)).length) (i64 ((q + 1 : Nat) : Int)) .junk .junk .junk .junk) [.cel (cellsF f), .vec 1 (strictL f.code p (q + 1)).length (rowI .i64 (natI (strictL f.code p (q + 1)))) false]
   rw [hs, List.length_append, List.length_singleton]
   refine wk _ [] _ _ (vals := ?_) (blks := .cons bs_cel (.cons (.vec rfl (by simp) rfl (Nat.le_refl _) (fun h => nomatch h) fun i hi => ?_) .nil))
   ·dsimp only [nrV]
    repeat' (first | exact VSubs.nil | apply VSubs.cons | exact VSub.one (VSub1.junk _) | exact VSub.nlv rfl | exact VSub.one (VSub1.ptr rfl) | exact VSub.one (VSub1.vec rfl rfl))
   ·rw [natI_snoc]
    have := row1_push (en := i64) (d := 0) (x := ((q : Nat) : Int)) (xs := natI (strictL f.code p q)) (i := i) (by rw [natI_len]; simpa using hi)
    rw [natI_len] at this
    exact this
  ·have hs := strict_succ (code := f.code) (p := p) (k := q)
   rw [if_neg (by rw [h3]; simp)] at hs
   refine p_skip ?_
   refine e_run ?_
   refine lp_next (q + 1) (by omega) (σ := [some 0, some 1]) (fz := []) ?_
   show Weak _ _ _ _ _ (nrV f p (.vec 1 1 (strictL f.code p (q + 1)).length) (i64 ((q + 1 : Nat) : Int)) .junk .junk .junk .junk) [.cel (cellsF f), .vec 1 (strictL f.code p (q + 1)).length (rowI .i64 (natI (strictL f.code p (q + 1)))) false]
   rw [hs]
   refine wk _ [] _ _ (vals := ?_) (blks := .cons bs_cel (.cons bs_same .nil))
   dsimp only [nrV]
   repeat' (first | exact VSubs.nil | apply VSubs.cons | exact VSub.one (VSub1.junk _) | exact VSub.nlv rfl | exact VSub.one (VSub1.ptr rfl) | exact VSub.one (VSub1.vec rfl rfl))
 simp only [decide_eq_false_iff_not] at h1
 have hqe : q = f.code.length + 1 := by omega
 subst hqe
 obtain ⟨S, hS⟩ : ∃ S, strictL f.code p (f.code.length + 1) = S := ⟨_, rfl⟩
 have hmem : ∀ s, s ∈ S → s < f.code.length + 1 := fun s h => (strict_mem.1 (hS ▸ h)).1
 have hgood : ∀ s, s ∈ S → (∀ q, q ∈ S → pdB f.code q s = true) → nrT f.code p = some s := fun s h g => by subst hS; exact near_good hT hp h g
 have hnear : ∀ e, nrT f.code p = some e → e ∈ S ∧ ∀ q, q ∈ S → pdB f.code q e = true := fun e h => by subst hS; exact near_is hT hp h
 rw [hS] at hsl ⊢
 clear hS
 refine s_exit ?_
 refine p_weak [some 0] [1] (wk _ [1] (nrV f p (.frz 1 S.length S.length (rowI .i64 (natI S))) .junk .junk .junk .junk .junk) [.cel (cellsF f)] (vals := ?_) (blks := .cons bs_cel .nil)) ?_
 ·dsimp only [nrV]
  repeat' (first | exact VSubs.nil | apply VSubs.cons | exact VSub.one (VSub1.junk _) | exact VSub.nlv rfl | exact VSub.one (VSub1.ptr rfl) | exact VSub.one (VSub1.vecf (.head _) rfl rfl (Nat.le_refl _) (Nat.le_refl _) fun i hi => rfl))
 unfold nrV
 refine s_ass (s_run ?_)
 refine s_loop (ι := Nat) (fun i => i ≤ S.length ∧ ∀ j s, j < i → S[j]? = some s → ¬ ∀ q, q ∈ S → pdB f.code q s = true) (fun i => S.length - i) (fun i => nrV f p (.frz 1 S.length S.length (rowI .i64 (natI S))) .junk (i64 (i : Nat)) .junk .junk .junk) (fun _ => [.cel (cellsF f)]) 0 ⟨Nat.zero_le _, fun j s h => by omega⟩ (σ := [some 0]) (fz := []) (wk _ [] _ _ (vals := ?_) (blks := .cons bs_cel .nil)) ?_
 ·dsimp only [nrV]
  repeat' (first | exact VSubs.nil | apply VSubs.cons | exact VSub.one (VSub1.junk _) | exact VSub.nlv rfl | exact VSub.one (VSub1.ptr rfl))
 rintro i ⟨hi, hno⟩
 unfold nrV
 refine s_ass (s_run ?_)
 refine s_cond (fun h2 => ?_) (fun h2 => ?_)
 ·simp only [decide_eq_true_eq] at h2
  have hi1 : i < S.length := by omega
  have hat : ∀ {k s : Nat}, S[k]? = some s → PV.s (.int .i64 ((natI S).getD k 0)) = i64 (s : Nat) := fun {k s} h => by
   show _ = PV.s (.int .i64 _)
   congr 2
   show (S.map Int.ofNat).getD k 0 = _
   rw [List.getD_eq_getElem?_getD, List.getElem?_map, h]
   rfl
  obtain ⟨s, hs⟩ : ∃ s, S[i]? = some s := ⟨_, List.getElem?_eq_getElem hi1⟩
  have hsm := hmem s (List.mem_of_getElem? hs)
  refine s_skip (s_block ?_)
  refine s_run ?_
  refine s_cut (fun T' hp' => ∃ x9 x12 x13, T' = [encF f, i64 (p : Nat), .ptr 0 0, i64 0, .s (.bool false), .frz 1 S.length S.length (rowI .i64 (natI S)), .junk, i64 (i : Nat), .s (.bool (S.all fun q => pdB f.code q s)), x9, .junk, .junk, x12, x13, .junk] ∧ hp' = [.cel (cellsF f)]) ?_ ?_
  ·refine s_run ?_
   refine e_loop (ι := Nat × Bool) (fun j => j.1 ≤ S.length ∧ j.2 = (S.take j.1).all fun q => pdB f.code q s) (fun j => S.length - j.1) (fun j => nrV f p (.frz 1 S.length S.length (rowI .i64 (natI S))) .junk (i64 (i : Nat)) (.s (.bool j.2)) (i64 (j.1 : Nat)) .junk) (fun _ => [.cel (cellsF f)]) (0, true) ⟨Nat.zero_le _, by simp⟩ (σ := [some 0]) (fz := []) (wk _ [] _ _ (vals := ?_) (blks := .cons bs_cel .nil)) ?_
   ·dsimp only [nrV]
    repeat' (first | exact VSubs.nil | apply VSubs.cons | exact VSub.one (VSub1.junk _) | exact VSub.nlv rfl | exact VSub.one (VSub1.ptr rfl))
   rintro ⟨k, ok⟩ ⟨hk, hok⟩
   dsimp only at hk hok ⊢
   unfold nrV
   refine s_ass (s_reg (g_run 2 ?_))
   refine prg_split (fun h3 => ?_) (fun h3 => ?_)
   ·simp only [decide_eq_true_eq] at h3
    have hk1 : k < S.length := by omega
    obtain ⟨t, ht⟩ : ∃ t, S[k]? = some t := ⟨_, List.getElem?_eq_getElem hk1⟩
    refine g_end ?_
    refine s_cond (fun h4 => ?_) (fun h4 => ?_)
    ·subst h4
     refine s_skip (s_block ?_)
     refine e_drw (g_run 3 ?_)
     refine prg_head (hat ht) ?_
     refine g_run 2 ?_
     refine prg_head (hat hs) ?_
     refine g_call (dom_ok hf hT (hmem t (List.mem_of_getElem? ht)) hsm) ?_
     rintro v rfl
     refine ⟨rfl, ?_⟩
     refine g_end ?_
     refine e_run ?_
     refine lp_next (k + 1, pdB f.code t s) ⟨by omega, by rw [take_snoc ht, List.all_append, ← hok]; simp⟩ (σ := [some 0]) (fz := []) (wk _ [] _ _ (vals := ?_) (blks := .cons bs_cel .nil))
     try dsimp only [nrV]
     repeat' (first | exact VSubs.nil | apply VSubs.cons | exact VSub.one (VSub1.junk _) | exact VSub.nlv rfl | exact VSub.one (VSub1.ptr rfl))
    ·subst h4
     refine s_exit ?_
     have hall : (S.all fun q => pdB f.code q s) = false := by
      rw [← Bool.not_eq_true]
      intro hx
      have : ((S.take k).all fun q => pdB f.code q s) = true := List.all_eq_true.2 fun q hq => List.all_eq_true.1 hx q (List.mem_of_mem_take hq)
      rw [← hok] at this
      cases this
     exact ⟨rfl, _, _, _, by rw [hall], rfl⟩
   ·simp only [decide_eq_false_iff_not] at h3
    refine g_end ?_
    refine s_f ?_
    refine s_exit ?_
    rw [List.take_of_length_le (by omega)] at hok
    exact ⟨rfl, _, _, _, by rw [← hok], rfl⟩
  rintro T' hp' ⟨x9, x12, x13, rfl, rfl⟩
  refine s_run ?_
  refine e_cond (fun h3 => ?_) (fun h3 => ?_)
  ·have hn := hgood s (List.mem_of_getElem? hs) (fun q hq => List.all_eq_true.1 h3 q hq)
   refine s_reg (g_run 2 ?_)
   refine prg_head (hat hs) ?_
   refine g_end ?_
   refine p_ret ?_
   refine fin_v (hv := ?_) (hn := ?_)
   ·unfold nearD; rw [hn]; rfl
   ·unfold nearD; rw [hn]; rfl
  ·refine p_skip ?_
   refine e_run ?_
   refine lp_next (i + 1) ⟨by omega, fun j s' hj hs' => ?_⟩ (σ := [some 0]) (fz := []) (wk _ [] _ _ (vals := ?_) (blks := .cons bs_cel .nil))
   ·by_cases e : j = i
    ·subst e
     rw [hs] at hs'; cases hs'
     intro hx
     have : (S.all fun q => pdB f.code q s) = true := List.all_eq_true.2 fun q hq => hx q hq
     rw [h3] at this; cases this
    ·exact hno j s' (by omega) hs'
   ·try dsimp only [nrV]
    repeat' (first | exact VSubs.nil | apply VSubs.cons | exact VSub.one (VSub1.junk _) | exact VSub.nlv rfl | exact VSub.one (VSub1.ptr rfl))
 simp only [decide_eq_false_iff_not] at h2
 have hnone : nrT f.code p = none := by
  cases hn : nrT f.code p with
  | none => rfl
  | some e =>
    obtain ⟨h3, h4⟩ := hnear e hn
    obtain ⟨j, hj, hje⟩ := List.mem_iff_getElem.1 h3
    exact absurd h4 (hno j e (by omega) (by rw [List.getElem?_eq_getElem hj, hje]))
 refine s_exit ?_
 refine s_run ?_
 refine p_ret (fin_v (hv := ?_) (hn := ?_))
 ·unfold nearD; rw [hnone]; rfl
 ·unfold nearD; rw [hnone]; rfl
end Go.Proofs.Ytggaimcopbjdiaa.Graph
