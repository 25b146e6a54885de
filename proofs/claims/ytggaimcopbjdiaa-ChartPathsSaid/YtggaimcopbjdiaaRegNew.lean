import Derived.Test.YtggaimcopbjdiaaPostNr
set_option linter.unusedVariables false
set_option linter.unusedSimpArgs false
set_option maxRecDepth 10000
namespace Go.Proofs.Ytggaimcopbjdiaa.Graph
open Go.Proofs.Ytggaimcopbjdiaa.AM Go.Proofs.Ytggaimcopbjdiaa.Post
theorem treeE {f : Fn} (hf : Fit f.code) : PFun E 58 [encF f] (valQ fun v => TreeR f.code (nrT f.code) ∧ v = encI (treeT f.code)) := PCall.mono (tree_ok hf) fun v hp ⟨h1, h2⟩ => ⟨h1, treeV_ok h2⟩
noncomputable def treeP (code : List (Int × Int)) : PV := .frz 1 (code.length + 1) (code.length + 1) (rowI .i64 (treeT code))
noncomputable def wkH (code : List (Int × Int)) (met : List Int) : PH := [.cel [nextP code, treeP code, .vec 1 1 (code.length + 1)], .vec 1 (code.length + 1) (rowI .i64 met) true]
noncomputable def nT (f : Fn) (x1 x2 x3 x6 x7 x8 : PV) : List PV := [encF f, x1, x2, x3, .junk, .junk, x6, x7, x8]
def TabW (f : Fn) (rc : PB) (near : PV) (k : Nat) (hp : PH) : Prop :=
 hp[0]? = some (.cel (cellsF f)) ∧ hp[2]? = some (.vec 1 (f.code.length + 1) (rowI .i64 (List.replicate (f.code.length + 1) 0)) true) ∧ hp[3]? = some (.cel [.vec 1 1 (f.code.length + 1), near, .vec 1 2 (f.code.length + 1)]) ∧ hp[4]? = some (.cel [.ptr 3 0]) ∧ hp[5]? = some rc ∧ 6 ≤ hp.length ∧ TabIn hp 1 (f.code.length + 1) (fun j : Nat => trailN ((edgesL f.code).take k) (j : Int)) (6 ≤ ·)
theorem newWalker_ok {f : Fn} (hf : Fit f.code) : PCall E [] 41 [encF f] [] (fun v hp => TreeR f.code (nrT f.code) ∧ v = .ptr 0 0 ∧ hp = wkH f.code (List.replicate (f.code.length + 1) 0)) := by
 have f1 := hf.len
 have f2 := edgesL_len f.code
 refine p_fn ?_
 show PTri E false [] _ [encF f, .junk, .junk, .junk, .junk, .junk, .junk, .junk, .junk] _ _
 refine s_run ?_
 refine s_drw (g_run 1 ?_)
 refine g_call (treeE hf) ?_
 rintro v ⟨hT, rfl⟩
 refine ⟨rfl, ?_⟩
 unfold encI
 rw [treeT_len]
 refine g_run 3 ?_
 refine g_run 1 ?_
 refine prg_head (v' := i64 (f.code.length + 1 : Nat)) rfl ?_
 refine g_run 4 ?_
 refine g_run 1 ?_
 refine prg_head (v' := i64 (f.code.length + 1 : Nat)) rfl ?_
 refine g_end ?_
 refine s_ass (s_reg (g_run 1 ?_))
 refine g_call (edgesE_ok hf) ?_
 rintro v rfl
 refine ⟨rfl, ?_⟩
 refine g_end ?_
 have hcl : ∀ j c, (List.replicate (f.code.length + 1) (PV.s (.slice none 0 0)))[j]? = some c → (List.map PV.s [Value.slice none 0 0]) = [c] := fun j c h => by
  rw [List.getElem?_replicate] at h
  split at h
  ·cases h; rfl
  ·cases h
 refine p_weak [some 0, some 1, some 2, some 3, some 4] [] (wk _ [] (nT f (.ptr 0 0) (.s (.pointer none)) (.ptr 4 0) (seqF f.code) .junk .junk) [.cel (cellsF f), .cel (List.replicate (f.code.length + 1) (.s (.slice none 0 0))), .vec 1 (f.code.length + 1) (rowI .i64 (List.replicate (f.code.length + 1) 0)) true, .cel [.vec 1 1 (f.code.length + 1), treeP f.code, .vec 1 2 (f.code.length + 1)], .cel [.ptr 3 0]] (blks := .cons bs_cel (.cons (.veccel rfl (by decide) rfl (Nat.succ_pos _) (by simp) hcl) (.cons (bs_vec rfl fun j hj => zrow _ hj) (.cons (.cel rfl (by decide) rfl (.cons (.one (.vec rfl rfl)) (.cons (.nlv rfl) (.cons (.one (.vec rfl rfl)) .nil)))) (.cons (.cel rfl (by decide) rfl (.cons (.one (.ptr rfl)) .nil)) .nil)))))) ?_
 refine s_block ?_
 obtain ⟨rc, hrc⟩ : ∃ rc, lrec ChartAwake.c41.body 0 (nT f (.ptr 0 0) (.s (.pointer none)) (.ptr 4 0) (seqF f.code) .junk .junk) .ready none = rc := ⟨_, rfl⟩
 refine p_range [5, 0, 1, 2, 3, 4] (PCall.mono (edges1_ok hf [0, 1, 2, 3, 4] (S := TabW f rc (treeP f.code)) (S' := fun _ => False) ?_ ?_) ?_)
 ·rintro k hp x y he ⟨h0, h2, h3, h4, h5, hl, r1⟩
  have htk : (edgesL f.code).take (k + 1) = (edgesL f.code).take k ++ [(x, y)] := by
   rw [List.take_add_one, he]; rfl
  obtain ⟨a, b, hxy, hak, hbm⟩ := edgesN_mem (Nat.le_refl _) (List.mem_of_getElem? he)
  cases hxy
  have hlt' := trail_len ((edgesL f.code).take k) (a : Int)
  have hlt : ((edgesL f.code).take k).length ≤ 2 * f.code.length := Nat.le_trans (by rw [List.length_take]; exact Nat.min_le_right _ _) f2
  have hl5 : 5 < hp.length := by omega
  subst hrc
  refine p_round (by decide) h5 rfl ?_
  refine s_pure ?_
  refine e_pure ?_
  refine ⟨rfl, _, h5, ?_⟩
  refine p_block (d_wpush (t4 := 3) (t5 := 5) (t6 := 4) (kb := 4) (wb := 3) (bk := 1) (n := f.code.length + 1) (i := a) (x := (b : Int)) (rest := [treeP f.code, .vec 1 2 (f.code.length + 1)]) (S := (6 ≤ ·)) rfl rfl rfl (by omega) (by rw [List.getElem?_set_ne (by decide)]; exact h4) (by rw [List.getElem?_set_ne (by decide)]; exact h3) (r1.keep (by rw [List.getElem?_set_ne (by decide)]) (fun j h1 _ => by rw [List.getElem?_set_ne (by omega)]) fun j h => h) (by decide) (by decide) (by decide) (by decide) (by decide) (by simp only [room]; omega) fun hp1 hl1 ho1 hr1 => ?_)
  rw [List.length_set] at hl1 ho1 hr1
  have g5 := ho1 5 (by omega) (by decide) (by decide)
  rw [List.getElem?_set_self hl5] at g5
  have hl' := (List.getElem?_eq_some_iff.1 g5).1
  have o1 : ∀ j, j < 5 → j ≠ 1 → hp1[j]? = hp[j]? := fun j q1 q2 => by rw [ho1 j (by omega) (by omega) q2, List.getElem?_set_ne (by omega)]
  refine ⟨_, g5, .inl ⟨rfl, ?_⟩⟩
  refine ⟨by rw [List.getElem?_set_ne (by decide), o1 0 (by decide) (by decide), h0], by rw [List.getElem?_set_ne (by decide), o1 2 (by decide) (by decide), h2], by rw [List.getElem?_set_ne (by decide), o1 3 (by decide) (by decide), h3], by rw [List.getElem?_set_ne (by decide), o1 4 (by decide) (by decide), h4], List.getElem?_set_self hl', by rw [List.length_set]; omega, ?_⟩
  rw [htk, trail_push]
  exact hr1.keep (by rw [List.getElem?_set_ne (by decide)]) (fun j q1 q2 => by
   have hj6 : 6 ≤ j := by
    rcases q1 with w | w <;> omega
   rw [List.getElem?_set_ne (by omega)]) fun j q => by rcases q with w | w <;> omega
 ·subst hrc
  exact ⟨rfl, rfl, rfl, rfl, rfl, Nat.le_refl 6, TabIn.start rfl⟩
 ·rintro v hp (h | h)
  ·obtain ⟨h0, h2, h3, h4, h5, hl, r1⟩ := h
   subst hrc
   refine ⟨_, .norm, h5, ?_⟩
   rw [List.take_length] at r1
   have e2 : (fun j : Nat => trailN (edgesL f.code) (j : Int)) = fun j : Nat => nextI f.code (j : Int) := funext fun j => by rw [trail_all, next_nat]
   rw [e2] at r1
   have g2 : (hp.set 5 PB.dead)[2]? = some (.vec 1 (f.code.length + 1) (rowI .i64 (List.replicate (f.code.length + 1) 0)) true) := by rw [List.getElem?_set_ne (by decide)]; exact h2
   have g3 : (hp.set 5 PB.dead)[3]? = some (.cel [.vec 1 1 (f.code.length + 1), treeP f.code, .vec 1 2 (f.code.length + 1)]) := by rw [List.getElem?_set_ne (by decide)]; exact h3
   have g4 : (hp.set 5 PB.dead)[4]? = some (.cel [.ptr 3 0]) := by rw [List.getElem?_set_ne (by decide)]; exact h4
   have gr1 := r1.keep (hp' := hp.set 5 PB.dead) (by rw [List.getElem?_set_ne (by decide)]) (fun j q _ => by rw [List.getElem?_set_ne (by omega)]) fun j q => q
   obtain ⟨fz1, z1, z2, z3⟩ := gr1.frz
   show PTri E false [] _ (nT f (.ptr 0 0) (.s (.pointer none)) (.ptr 4 0) (seqF f.code) .junk .junk) (hp.set 5 PB.dead) _
   generalize hp.set 5 PB.dead = hq at g2 g3 g4 gr1 z3 ⊢
   have m1 : ∀ j, j ≠ 1 → j < 6 → j ∉ fz1 := fun j q1 q3 h => by
    rcases z2 j h with e | e
    ·exact q1 e
    ·omega
   refine p_weak [some 3, some 2, some 4] fz1 (wk _ fz1 (nT f .junk .junk (.ptr 2 0) .junk .junk .junk) [.cel [nextP f.code, treeP f.code, .vec 1 1 (f.code.length + 1)], .vec 1 (f.code.length + 1) (rowI .i64 (List.replicate (f.code.length + 1) 0)) true, .cel [.ptr 0 0]] (vals := ?_) (blks := .cons (.cel rfl (m1 3 (by decide) (by decide)) g3 (.cons (.one (z3 _ _ fun b h => h)) (.cons (.nlv rfl) (.cons (.one (.vec rfl rfl)) .nil)))) (.cons (.vec rfl (m1 2 (by decide) (by decide)) g2 (Nat.le_refl _) (fun h => ⟨rfl, rfl⟩) fun _ _ => rfl) (.cons (.cel rfl (m1 4 (by decide) (by decide)) g4 (.cons (.one (.ptr rfl)) .nil)) .nil)))) ?_
   ·unfold nT
    repeat' (first | exact VSubs.nil | apply VSubs.cons | exact VSub.one (VSub1.junk _) | exact VSub.nlv rfl | exact VSub.one (VSub1.ptr rfl))
   refine s_run ?_
   refine p_weak [some 0, some 1] [] (wk _ [] (nT f .junk (.ptr 0 0) .junk .junk .junk .junk) (wkH f.code (List.replicate (f.code.length + 1) 0)) (vals := ?_) (blks := .cons (.cel rfl (by simp) rfl (.cons (.nlv rfl) (.cons (.nlv rfl) (.cons (.one (.vec rfl rfl)) .nil)))) (.cons bs_same .nil))) ?_
   ·unfold nT
    repeat' (first | exact VSubs.nil | apply VSubs.cons | exact VSub.one (VSub1.junk _) | exact VSub.nlv rfl | exact VSub.one (VSub1.ptr rfl))
   exact p_ret (fin ⟨hT, rfl, rfl⟩)
  ·exact h.elim
end Go.Proofs.Ytggaimcopbjdiaa.Graph
