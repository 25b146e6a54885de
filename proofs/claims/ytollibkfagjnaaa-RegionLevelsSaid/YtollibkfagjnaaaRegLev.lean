/- Levels. -/
import Derived.Test.YtollibkfagjnaaaRegTell
set_option linter.unusedVariables false
set_option linter.unusedSimpArgs false
set_option maxRecDepth 10000
namespace Go.Proofs.Ytollibkfagjnaaa.Graph
open Go.Proofs.Ytollibkfagjnaaa.AM Go.Proofs.Ytollibkfagjnaaa.Post
open Classical in
/-- The level of an address, as the first k conditions tell it. -/
noncomputable def levA (code : List (Int × Int)) (conds : List Int) (base : Int) (a : Nat) : Nat → Int
  | 0 => base
  | k + 1 => if conds.getD k 0 ≠ 0 ∧ Reg code k a then orU' (levA code conds base a k) (conds.getD k 0) else levA code conds base a k
noncomputable def levL (code : List (Int × Int)) (conds : List Int) (base : Int) (k : Nat) : List Int := (List.range code.length).map fun a => levA code conds base a k
theorem levL_len {code : List (Int × Int)} {conds : List Int} {base : Int} {k : Nat} : (levL code conds base k).length = code.length := by simp [levL]
theorem levL_at {code : List (Int × Int)} {conds : List Int} {base : Int} {k a : Nat} (h : a < code.length) : (levL code conds base k).getD a 0 = levA code conds base a k := by
  rw [List.getD_eq_getElem?_getD]
  simp [levL, h]
theorem ext_getD {l l' : List Int} (h : l.length = l'.length) (he : ∀ i, i < l.length → l.getD i 0 = l'.getD i 0) : l = l' := by
  apply List.ext_getElem h
  intro i h1 h2
  have := he i h1
  rw [List.getD_eq_getElem?_getD, List.getD_eq_getElem?_getD, List.getElem?_eq_getElem h1, List.getElem?_eq_getElem h2] at this
  exact this
theorem addN_fold {c : Int} : ∀ {tl : List Nat} {ls : List Int}, tl.Nodup → (tl.foldl (addN c) ls).length = ls.length ∧ ∀ a, a < ls.length → (tl.foldl (addN c) ls).getD a 0 = if a ∈ tl then orU' (ls.getD a 0) c else ls.getD a 0
  | [], ls, _ => ⟨rfl, fun a ha => by simp⟩
  | t :: tl, ls, h => by
    obtain ⟨h1, h2⟩ := List.nodup_cons.1 h
    obtain ⟨i1, i2⟩ := addN_fold (c := c) (tl := tl) (ls := addN c ls t) h2
    have hl : (addN c ls t).length = ls.length := List.length_set
    refine ⟨i1.trans hl, fun a ha => ?_⟩
    rw [List.foldl_cons, i2 a (by omega)]
    unfold addN
    by_cases e : a = t
    · subst e
      rw [if_neg h1, if_pos (List.mem_cons_self ..), List.getD_eq_getElem?_getD, List.getElem?_set_self ha]
      rfl
    · have : (ls.set t (orU' (ls.getD t 0) c)).getD a 0 = ls.getD a 0 := by
        rw [List.getD_eq_getElem?_getD, List.getElem?_set_ne (Ne.symm e), List.getD_eq_getElem?_getD]
      rw [this]
      by_cases w : a ∈ tl
      · rw [if_pos w, if_pos (List.mem_cons_of_mem _ w)]
      · rw [if_neg w, if_neg (by simp [e, w])]
theorem levL_step {code : List (Int × Int)} {conds : List Int} {base : Int} {k : Nat} {met : List Int} {tl : List Nat} (ht : Told code k met tl) (hc : conds.getD k 0 ≠ 0) : tl.foldl (addN (conds.getD k 0)) (levL code conds base k) = levL code conds base (k + 1) := by
  obtain ⟨h1, h2⟩ := addN_fold (c := conds.getD k 0) (ls := levL code conds base k) ht.nd
  refine ext_getD (by rw [h1, levL_len, levL_len]) fun a ha => ?_
  rw [h1, levL_len] at ha
  rw [h2 a (by rw [levL_len]; exact ha), levL_at ha, levL_at ha]
  simp only [levA]
  by_cases w : a ∈ tl
  · rw [if_pos w, if_pos ⟨hc, (ht.iff a).1 w⟩]
  · rw [if_neg w, if_neg fun q => w ((ht.iff a).2 q.2)]
theorem levL_skip {code : List (Int × Int)} {conds : List Int} {base : Int} {k : Nat} (hc : conds.getD k 0 = 0) : levL code conds base (k + 1) = levL code conds base k := by
  unfold levL
  congr 1
  funext a
  simp only [levA]
  rw [if_neg fun q => q.1 hc]
def u64 (x : Int) : PV := .s (.int .u64 x)
def fillR (base : Int) (k : Nat) : Nat → List PV := fun j => [u64 (if j < k then base else 0)]
noncomputable def vW (code : List (Int × Int)) : PB := .cel [nextP code, treeP code, .vec 1 2 (code.length + 1)]
noncomputable def vN (f : Fn) (met : List Int) (row : Nat → List PV) (c : PV) : PH := [.cel (cellsF f), vW f.code, eM f.code met, .vec 1 f.code.length row false, .cel [.exv 1 3 f.code.length, c]]
noncomputable def vT (f : Fn) (base : Int) (conds : List Int) (x7 x8 x9 x10 x11 x12 x14 x15 x16 : PV) : List PV := [encF f, u64 base, encU conds, .ptr 0 0, .junk, .ptr 1 0, .ptr 4 0, x7, x8, x9, x10, x11, x12, .junk, x14, x15, x16, .junk, .junk]
theorem levelsO_ok {f : Fn} (hf : Fit f.code) {base : Int} {conds : List Int} (hcl : conds.length < 17592186044415) : PCall E [] 37 [encF f, u64 base, encU conds] [] (fun v hp => TreeR f.code (nrT f.code) ∧ v = .exv 1 0 f.code.length ∧ hp = [.vec 1 f.code.length (rowI .u64 (levL f.code conds base conds.length)) false]) := by
  have f1 := hf.len
  refine p_fn ?_
  show PTri E false [] _ [encF f, u64 base, encU conds, .junk, .junk, .junk, .junk, .junk, .junk, .junk, .junk, .junk, .junk, .junk, .junk, .junk, .junk, .junk, .junk] _ _
  refine s_run ?_
  refine s_reg (g_run 1 ?_)
  refine g_scall [] [] (args' := [encF f]) (hpc := []) (newWalker_ok hf) (wk _ [] _ _ (vals := .cons (.nlv rfl) .nil) (blks := .nil)) ?_
  rintro v hpc' ⟨hT, rfl, rfl⟩
  refine ⟨rfl, rfl, Nat.zero_le _, ?_⟩
  refine g_end ?_
  refine s_reg (g_run 3 ?_)
  refine prg_mkx (n := f.code.length) rfl rfl rfl (by constructor <;> omega) ?_
  refine g_end ?_
  refine s_ass (s_run ?_)
  refine s_loop (ι := Nat) (fun i => i ≤ f.code.length) (fun i => f.code.length - i) (fun i => vT f base conds .junk .junk .junk .junk (i64 (f.code.length : Nat)) (i64 (i : Nat)) .junk .junk .junk) (fun i => vN f (List.replicate (f.code.length + 1) 0) (fillR base i) .junk) 0 (Nat.zero_le _) (σ := [some 0, some 1, some 2, some 3, some 4]) (fz := []) (wk _ [] _ _ (vals := ?_) (blks := .cons (.cel rfl (by simp) rfl (.cons (.nlv rfl) (.cons (.nlv rfl) (.cons (.nlv rfl) (.cons (.nlv rfl) (.cons (.nlv rfl) (.cons (.nlv rfl) .nil))))))) (.cons (.cel rfl (by simp) rfl (.cons (.nlv rfl) (.cons (.nlv rfl) (.cons (.one (.vec rfl rfl)) .nil)))) (.cons bs_same (.cons (.vec rfl (by simp) rfl (Nat.le_refl _) (fun h => nomatch h) fun i hi => rfl) (.cons (.cel rfl (by simp) rfl (.cons (.one (.exv rfl rfl)) (.cons (.one (.junk _)) .nil))) .nil)))))) ?_
  · try dsimp only [vT]
    repeat' (first | exact VSubs.nil | apply VSubs.cons | exact VSub.one (VSub1.junk _) | exact VSub.nlv rfl | exact VSub.one (VSub1.ptr rfl) | exact VSub.fn (.cons (.ptr rfl) .nil) .nil)
  · intro i hi
    unfold vT vN eM vW
    refine s_run ?_
    refine s_cond (fun h1 => ?_) (fun h1 => ?_)
    · simp only [decide_eq_true_eq] at h1
      refine s_skip (s_block ?_)
      refine s_run ?_
      refine e_run ?_
      refine e_run ?_
      refine lp_next (i + 1) (by omega) (σ := [some 0, some 1, some 2, some 3, some 4]) (fz := []) (wk _ [] _ _ (vals := ?_) (blks := .cons (.cel rfl (by simp) rfl (.cons (.nlv rfl) (.cons (.nlv rfl) (.cons (.nlv rfl) (.cons (.nlv rfl) (.cons (.nlv rfl) (.cons (.nlv rfl) .nil))))))) (.cons (.cel rfl (by simp) rfl (.cons (.nlv rfl) (.cons (.nlv rfl) (.cons (.one (.vec rfl rfl)) .nil)))) (.cons bs_same (.cons (.vec rfl (by simp) rfl (Nat.le_refl _) (fun h => nomatch h) fun j hj => ?_) (.cons (.cel rfl (by simp) rfl (.cons (.one (.exv rfl rfl)) (.cons (.one (.junk _)) .nil))) .nil))))))
      · try dsimp only [vT]
        repeat' (first | exact VSubs.nil | apply VSubs.cons | exact VSub.one (VSub1.junk _) | exact VSub.nlv rfl | exact VSub.one (VSub1.ptr rfl) | exact VSub.fn (.cons (.ptr rfl) .nil) .nil)
      · show (if j = i then _ else fillR base i j) = fillR base (i + 1) j
        unfold fillR
        by_cases e : j = i
        · subst e; rw [if_pos rfl, if_pos (Nat.lt_succ_self j)]; rfl
        · rw [if_neg e]
          by_cases w : j < i
          · rw [if_pos w, if_pos (by omega)]
          · rw [if_neg w, if_neg (by omega)]
    simp only [decide_eq_false_iff_not] at h1
    refine s_exit ?_
    refine s_run ?_
    refine s_ass (s_run ?_)
    refine s_loop (ι := Nat × List Int) (fun i => i.1 ≤ conds.length ∧ i.2.length = f.code.length + 1 ∧ ∀ a, a < f.code.length + 1 → i.2.getD a 0 ≤ ((i.1 : Nat) : Int)) (fun i => conds.length - i.1) (fun i => vT f base conds .junk (.fn 76 [.ptr 4 0] []) .junk .junk .junk .junk (encU conds) (i64 (conds.length : Nat)) (i64 (i.1 : Nat))) (fun i => vN f i.2 (rowI .u64 (levL f.code conds base i.1)) .junk) (0, List.replicate (f.code.length + 1) 0) ⟨Nat.zero_le _, by simp, fun a ha => by simp [List.getD_eq_getElem?_getD, List.getElem?_replicate, ha]⟩ (σ := [some 0, some 1, some 2, some 3, some 4]) (fz := []) (wk _ [] _ _ (vals := ?_) (blks := .cons (.cel rfl (by simp) rfl (.cons (.nlv rfl) (.cons (.nlv rfl) (.cons (.nlv rfl) (.cons (.nlv rfl) (.cons (.nlv rfl) (.cons (.nlv rfl) .nil))))))) (.cons (.cel rfl (by simp) rfl (.cons (.nlv rfl) (.cons (.nlv rfl) (.cons (.one (.vec rfl rfl)) .nil)))) (.cons bs_same (.cons (.vec rfl (by simp) rfl (Nat.le_refl _) (fun h => nomatch h) fun j hj => ?_) (.cons (.cel rfl (by simp) rfl (.cons (.one (.exv rfl rfl)) (.cons (.one (.junk _)) .nil))) .nil)))))) ?_
    · try dsimp only [vT]
      repeat' (first | exact VSubs.nil | apply VSubs.cons | exact VSub.one (VSub1.junk _) | exact VSub.nlv rfl | exact VSub.one (VSub1.ptr rfl) | exact VSub.fn (.cons (.ptr rfl) .nil) .nil)
    · simp only [fillR, rowI, u64]
      rw [levL_at hj, if_pos (by omega)]
      rfl
    rintro ⟨k, met⟩ ⟨hk, hm, hle⟩
    dsimp only at hk hm hle ⊢
    unfold vT vN eM vW
    refine s_run ?_
    refine s_cond (fun h2 => ?_) (fun h2 => ?_)
    · simp only [decide_eq_true_eq] at h2
      refine s_skip (s_block ?_)
      refine s_run ?_
      refine s_run ?_
      refine e_cond (fun h3 => ?_) (fun h3 => ?_)
      · have hc : conds.getD k 0 ≠ 0 := by simpa using h3
        refine s_run ?_
        refine e_reg ?_
        refine g_scall [1, 2, 4, 3] [] (args' := [.ptr 0 0, i64 (k : Nat), .fn 76 [.ptr 2 0] []]) (hpc := eI f.code true [.int .u64 (conds.getD k 0)] List.length (rowI .u64) met (levL f.code conds base k)) (each_ok hT f1 (addT (n := f.code.length) (K := f.code.length + 1) (c := conds.getD k 0)) (by omega) hm hle (k := 0) levL_len (by omega)) (wk _ [] _ _ (vals := .cons (.one (.ptr rfl)) (.cons (.nlv rfl) (.cons (.fn (.cons (.ptr rfl) .nil) .nil) .nil))) (blks := .cons (.cel rfl (by simp) rfl (.cons (.nlv rfl) (.cons (.nlv rfl) (.cons (.one (.vec rfl rfl)) .nil)))) (.cons bs_same (.cons (.cel rfl (by simp) rfl (.cons (.one (.exv rfl levL_len.symm)) (.cons (.nlv rfl) .nil))) (.cons (.vec rfl (by simp) rfl (Nat.le_of_eq levL_len) (fun h => nomatch h) fun _ _ => rfl) .nil))))) ?_
        rintro v hpc' ⟨rfl, met', tl, ht, rfl⟩
        have hs := levL_step (base := base) ht hc
        have hn : (tl.foldl (addN (conds.getD k 0)) (levL f.code conds base k)).length = f.code.length := by rw [hs, levL_len]
        refine ⟨rfl, rfl, by simp [eO], ?_⟩
        refine g_fin ?_
        refine e_run ?_
        refine lp_next (k + 1, met') ⟨by omega, ht.len, ht.le⟩ (σ := [some 0, some 1, some 2, some 5, some 4]) (fz := []) (wk _ [] _ _ (vals := ?_) (blks := .cons (.cel rfl (by simp) rfl (.cons (.nlv rfl) (.cons (.nlv rfl) (.cons (.nlv rfl) (.cons (.nlv rfl) (.cons (.nlv rfl) (.cons (.nlv rfl) .nil))))))) (.cons (.cel rfl (by simp) rfl (.cons (.nlv rfl) (.cons (.nlv rfl) (.cons (.one (.vec rfl rfl)) .nil)))) (.cons bs_same (.cons (.vec rfl (by simp) rfl (Nat.le_of_eq hn.symm) (fun h => nomatch h) fun j hj => ?_) (.cons (.cel rfl (by simp) rfl (.cons (.one (.exv rfl hn)) (.cons (.one (.junk _)) .nil))) .nil))))))
        · try dsimp only [vT]
          repeat' (first | exact VSubs.nil | apply VSubs.cons | exact VSub.one (VSub1.junk _) | exact VSub.nlv rfl | exact VSub.one (VSub1.ptr rfl) | exact VSub.fn (.cons (.ptr rfl) .nil) .nil)
        · rw [hs]
      · have hc : conds.getD k 0 = 0 := by simpa using h3
        refine p_skip ?_
        refine e_run ?_
        refine lp_next (k + 1, met) ⟨by omega, hm, fun a ha => by have := hle a ha; dsimp only; omega⟩ (σ := [some 0, some 1, some 2, some 3, some 4]) (fz := []) (wk _ [] _ _ (vals := ?_) (blks := .cons (.cel rfl (by simp) rfl (.cons (.nlv rfl) (.cons (.nlv rfl) (.cons (.nlv rfl) (.cons (.nlv rfl) (.cons (.nlv rfl) (.cons (.nlv rfl) .nil))))))) (.cons (.cel rfl (by simp) rfl (.cons (.nlv rfl) (.cons (.nlv rfl) (.cons (.one (.vec rfl rfl)) .nil)))) (.cons bs_same (.cons (.vec rfl (by simp) rfl (Nat.le_refl _) (fun h => nomatch h) fun j hj => ?_) (.cons (.cel rfl (by simp) rfl (.cons (.one (.exv rfl rfl)) (.cons (.one (.junk _)) .nil))) .nil))))))
        · try dsimp only [vT]
          repeat' (first | exact VSubs.nil | apply VSubs.cons | exact VSub.one (VSub1.junk _) | exact VSub.nlv rfl | exact VSub.one (VSub1.ptr rfl) | exact VSub.fn (.cons (.ptr rfl) .nil) .nil)
        · rw [levL_skip hc]
    simp only [decide_eq_false_iff_not] at h2
    have hkl : k = conds.length := by omega
    subst hkl
    refine s_exit ?_
    refine s_run ?_
    refine p_weak [some 3] [] (wk _ [] [.junk, .junk, .junk, .junk, .exv 1 0 f.code.length, .junk, .junk, .junk, .junk, .junk, .junk, .junk, .junk, .junk, .junk, .junk, .junk, .junk, .junk] [.vec 1 f.code.length (rowI .u64 (levL f.code conds base conds.length)) false] (vals := ?_) (blks := .cons bs_same .nil)) ?_
    · repeat' (first | exact VSubs.nil | apply VSubs.cons | exact VSub.one (VSub1.junk _) | exact VSub.one (VSub1.exv rfl rfl))
    exact p_ret (fin ⟨hT, rfl, rfl⟩)
theorem levels_ok {f : Fn} (hf : Fit f.code) {base : Int} {conds : List Int} (hcl : conds.length < 17592186044415) : PFun E 37 [encF f, u64 base, encU conds] (valQ fun v => TreeR f.code (nrT f.code) ∧ v = encU (levL f.code conds base conds.length)) := by
  refine call_post (PCall.mono (levelsO_ok hf hcl) ?_)
  rintro v hp ⟨hT, rfl, rfl⟩
  exact ⟨[], [0], _, [], wk _ [0] _ _ (vals := .cons (.one (.exvf (.head _) rfl levL_len.symm (Nat.le_refl _) fun i hi => rfl)) .nil) (blks := .nil), rfl, hT, rfl⟩
end Go.Proofs.Ytollibkfagjnaaa.Graph
