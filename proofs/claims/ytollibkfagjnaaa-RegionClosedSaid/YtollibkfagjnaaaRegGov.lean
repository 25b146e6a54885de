/- Governs. -/
import Derived.Test.YtollibkfagjnaaaRegLev
set_option linter.unusedVariables false
set_option linter.unusedSimpArgs false
set_option maxRecDepth 10000
namespace Go.Proofs.Ytollibkfagjnaaa.Graph
open Go.Proofs.Ytollibkfagjnaaa.AM Go.Proofs.Ytollibkfagjnaaa.Post
open Classical in
/-- What governs an address, of the first k. -/
noncomputable def govL (code : List (Int × Int)) (a : Nat) : Nat → List Nat
  | 0 => []
  | k + 1 => if Reg code k a then govL code a k ++ [k] else govL code a k
theorem govL_len {code : List (Int × Int)} {a : Nat} : ∀ k, (govL code a k).length ≤ k
  | 0 => Nat.le_refl _
  | k + 1 => by
    have := govL_len (code := code) (a := a) k
    simp only [govL]
    split
    · rw [List.length_append, List.length_singleton]; omega
    · omega
theorem govN_fold {a b : Nat} : ∀ {tl : List Nat} {l : List Nat}, tl.Nodup → tl.foldl (govN a b) l = if a ∈ tl then l ++ [b] else l
  | [], l, _ => by simp
  | t :: tl, l, h => by
    obtain ⟨h1, h2⟩ := List.nodup_cons.1 h
    rw [List.foldl_cons, govN_fold h2]
    unfold govN
    by_cases e : t = a
    · subst e
      rw [if_neg h1, if_pos rfl, if_pos (List.mem_cons_self ..)]
    · rw [if_neg e]
      by_cases w : a ∈ tl
      · rw [if_pos w, if_pos (List.mem_cons_of_mem _ w)]
      · rw [if_neg w, if_neg (by simp [Ne.symm e, w])]
theorem govL_step {code : List (Int × Int)} {a k : Nat} {met : List Int} {tl : List Nat} (ht : Told code k met tl) : tl.foldl (govN a k) (govL code a k) = govL code a (k + 1) := by
  rw [govN_fold ht.nd]
  simp only [govL]
  by_cases w : a ∈ tl
  · rw [if_pos w, if_pos ((ht.iff a).1 w)]
  · rw [if_neg w, if_neg fun q => w ((ht.iff a).2 q)]
noncomputable def gN (f : Fn) (met : List Int) (l : List Nat) : PH := [.cel (cellsF f), vW f.code, eM f.code met, .cel [.vec 1 4 l.length], .vec 1 l.length (rowI .i64 (natI l)) false]
noncomputable def gT (f : Fn) (a : Nat) (x7 x9 : PV) : List PV := [encF f, i64 (a : Nat), .ptr 0 0, fB a, .junk, .ptr 1 0, .ptr 3 0, x7, i64 (f.code.length : Nat), x9, .junk]
theorem governs_ok {f : Fn} (hf : Fit f.code) {a : Nat} (ha : a < f.code.length) : PFun E 43 [encF f, i64 (a : Nat)] (valQ fun v => v = encI (natI (govL f.code a f.code.length))) := by
  have f1 := hf.len
  refine p_fun ?_
  show PTri E false [] _ [encF f, i64 (a : Nat), .junk, .junk, .junk, .junk, .junk, .junk, .junk, .junk, .junk] _ _
  refine s_run ?_
  refine s_reg (g_run 1 ?_)
  refine g_scall [] [] (args' := [encF f]) (hpc := []) (newWalker_ok hf) (wk _ [] _ _ (vals := .cons (.nlv rfl) .nil) (blks := .nil)) ?_
  rintro v hpc' ⟨hT, rfl, rfl⟩
  refine ⟨rfl, rfl, Nat.zero_le _, ?_⟩
  refine g_end ?_
  refine s_run ?_
  refine s_ass (s_run ?_)
  have hpt : ∀ {σ : Sig} {fz : List Nat} {hp : PH} {b z : Nat}, hp[b]? = some (.cel [i64 (z : Nat)]) → b ∈ fz → VSub1 σ fz hp (.ptr b 0) (fB z) := fun hb hm => .ptrf hm hb (by omega) rfl (by simp) (by simp [i64, nlb]) fun i hi => by
    have : i = 0 := by omega
    subst this; rfl
  refine s_loop (ι := Nat × List Int) (fun i => i.1 ≤ f.code.length ∧ i.2.length = f.code.length + 1 ∧ ∀ a, a < f.code.length + 1 → i.2.getD a 0 ≤ ((i.1 : Nat) : Int)) (fun i => f.code.length - i.1) (fun i => gT f a .junk (i64 (i.1 : Nat))) (fun i => gN f i.2 (govL f.code a i.1)) (0, List.replicate (f.code.length + 1) 0) ⟨Nat.zero_le _, by simp, fun a ha => by simp [List.getD_eq_getElem?_getD, List.getElem?_replicate, ha]⟩ (σ := [some 0, some 2, some 3, some 4, none]) (fz := [1]) (wk _ [1] _ _ (vals := ?_) (blks := .cons (.cel rfl (by simp) rfl (.cons (.nlv rfl) (.cons (.nlv rfl) (.cons (.nlv rfl) (.cons (.nlv rfl) (.cons (.nlv rfl) (.cons (.nlv rfl) .nil))))))) (.cons (.cel rfl (by simp) rfl (.cons (.nlv rfl) (.cons (.nlv rfl) (.cons (.one (.vec rfl rfl)) .nil)))) (.cons bs_same (.cons (.cel rfl (by simp) rfl (.cons (.one (.nil rfl)) .nil)) (.cons (.nil rfl) .nil)))))) ?_
  · dsimp only [gT]
    exact .cons (.nlv rfl) (.cons (.nlv rfl) (.cons (.one (.ptr rfl)) (.cons (.one (hpt rfl (by decide))) (.cons (.one (.junk _)) (.cons (.one (.ptr rfl)) (.cons (.one (.ptr rfl)) (.cons (.one (.junk _)) (.cons (.nlv rfl) (.cons (.nlv rfl) (.cons (.one (.junk _)) .nil))))))))))
  rintro ⟨k, met⟩ ⟨hk, hm, hle⟩
  dsimp only at hk hm hle ⊢
  have hgl := govL_len (code := f.code) (a := a) k
  unfold gT gN eM vW fB
  refine s_run ?_
  refine s_cond (fun h2 => ?_) (fun h2 => ?_)
  · simp only [decide_eq_true_eq] at h2
    refine s_skip (s_block ?_)
    refine s_run ?_
    refine e_reg (g_run 2 ?_)
    refine g_scall [1, 2, 3, 4] [5] (args' := [.ptr 0 0, i64 (k : Nat), .fn 81 [] [fB a, .ptr 2 0, fB k]]) (hpc := eI f.code false [] List.length (fun l => rowI .i64 (natI l)) met (govL f.code a k)) (each_ok hT f1 (govT (n := f.code.length) (y := a) (b := k) (by omega) (by omega)) (by omega) hm hle (k := k) hgl (by omega)) (wk _ [5] [.ptr 0 0, i64 (k : Nat), .fn 81 [] [fB a, .ptr 2 0, fB k]] [eW f.code, eM f.code met, .cel [.vec 1 3 (govL f.code a k).length], .vec 1 (govL f.code a k).length (rowI .i64 (natI (govL f.code a k))) false] (vals := .cons (.one (.ptr rfl)) (.cons (.nlv rfl) (.cons (.fn .nil (.cons (.same rfl) (.cons (.ptr rfl) (.cons (hpt (b := 5) rfl (.head _)) .nil)))) .nil))) (blks := .cons (.cel rfl (by simp) rfl (.cons (.nlv rfl) (.cons (.nlv rfl) (.cons (.one (.vec rfl rfl)) .nil)))) (.cons bs_same (.cons (.cel rfl (by simp) rfl (.cons (.one (.vec (b := 4) rfl rfl)) .nil)) (.cons (bs_same (i := 4)) .nil))))) ?_
    rintro v hpc' ⟨rfl, met', tl, ht, rfl⟩
    have hs := govL_step (a := a) ht
    refine ⟨rfl, rfl, by simp [eO], ?_⟩
    refine g_fin ?_
    refine e_run ?_
    refine lp_next (k + 1, met') ⟨by omega, ht.len, ht.le⟩ (σ := [some 0, some 1, some 2, some 3, some 6]) (fz := []) (wk _ [] _ _ (vals := ?_) (blks := .cons (.cel rfl (by simp) rfl (.cons (.nlv rfl) (.cons (.nlv rfl) (.cons (.nlv rfl) (.cons (.nlv rfl) (.cons (.nlv rfl) (.cons (.nlv rfl) .nil))))))) (.cons (.cel rfl (by simp) rfl (.cons (.nlv rfl) (.cons (.nlv rfl) (.cons (.one (.vec rfl rfl)) .nil)))) (.cons bs_same (.cons (.cel rfl (by simp) rfl (.cons (.one (.vec rfl (by rw [hs]))) .nil)) (.cons (.vec rfl (by simp) rfl (by rw [hs]; exact Nat.le_refl _) (fun h => nomatch h) fun j hj => by rw [hs]) .nil))))))
    · dsimp only [gT]
      repeat' (first | exact VSubs.nil | apply VSubs.cons | exact VSub.one (VSub1.junk _) | exact VSub.nlv rfl | exact VSub.one (VSub1.ptr rfl))
  simp only [decide_eq_false_iff_not] at h2
  have hkl : k = f.code.length := by omega
  subst hkl
  refine s_exit ?_
  refine p_weak [some 3] [4] (wk _ [4] [.junk, .junk, .junk, .junk, .junk, .junk, .ptr 0 0, .junk, .junk, .junk, .junk] [.cel [encI (natI (govL f.code a f.code.length))]] (vals := ?_) (blks := .cons (.cel rfl (by simp) rfl (.cons (.one (.vecf (.head _) rfl (natI_len _).symm (Nat.le_refl _) (Nat.le_of_eq (natI_len _)) fun i hi => rfl)) .nil)) .nil)) ?_
  · repeat' (first | exact VSubs.nil | apply VSubs.cons | exact VSub.one (VSub1.junk _) | exact VSub.nlv rfl | exact VSub.one (VSub1.ptr rfl))
  unfold encI
  refine s_reg (g_run 1 ?_)
  refine g_call (clip_ok _ _ _ (Nat.le_refl _)) ?_
  rintro v rfl
  refine ⟨rfl, ?_⟩
  refine g_end ?_
  exact p_ret (fin_r rfl)
end Go.Proofs.Ytollibkfagjnaaa.Graph
