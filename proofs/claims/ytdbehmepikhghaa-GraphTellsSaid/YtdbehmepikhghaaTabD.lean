/- Functions of graphs whose lists are one's own. -/
import Derived.Test.YtdbehmepikhghaaTabC
import Derived.Test.YtdbehmepikhghaaGraphK
set_option linter.unusedVariables false
set_option linter.unusedSimpArgs false
set_option maxRecDepth 10000
namespace Go.Proofs.Ytdbehmepikhghaa.Graph
open Go.Proofs.Ytdbehmepikhghaa.AM
/-- A list of one's own, with no more room, alone. -/
def ownQ (xs : List Int) : PV → PH → Prop := fun v hp => v = .exv 1 0 xs.length ∧ hp = [.vec 1 xs.length (rowI .i64 xs) false]
theorem intsX_ok (xs : List Int) (hn : xs.length < 1000000000) {full : Bool} : PCall E [0] 16 [.exv 1 0 xs.length, encI xs] [.vec 1 xs.length (rowI .i64 xs) full] (fun v hp => v = .s (.bool true) ∧ hp = [.vec 1 xs.length (rowI .i64 xs) full]) := by
  obtain ⟨n, hxn⟩ : ∃ n, xs.length = n := ⟨_, rfl⟩
  unfold encI
  rw [hxn] at hn ⊢
  refine p_call (fun _ _ => rfl) rfl ?_
  show PTri E false [0] _ [.exv 1 0 n, .frz 1 n n (rowI .i64 xs), .junk, .junk, .junk, .junk, .junk] _ _
  refine s_run ?_
  refine s_ass (s_run ?_)
  refine s_cond (fun h => ?_) (fun h => ?_)
  · exfalso; simp at h
  refine s_skip (s_ass (s_run ?_))
  refine s_loop (fun i => i ≤ n) (fun i => n - i) (fun i => [.exv 1 0 n, .frz 1 n n (rowI .i64 xs), .s (.bool false), .s (.int .i64 (i : Nat)), .junk, .junk, .junk]) (fun _ => [.vec 1 n (rowI .i64 xs) full]) 0 (Nat.zero_le _) (σ := [some 0]) (fz := []) (wk _ [] _ _ (vals := .cons (.one (.exv rfl rfl)) (.cons (.nlv rfl) (.cons (.nlv rfl) (.cons (.nlv rfl) (.cons (.one (.junk _)) (.cons (.one (.junk _)) (.cons (.one (.junk _)) .nil))))))) (blks := .cons bs_same .nil)) ?_
  rintro i hi
  refine s_ass (s_run ?_)
  refine s_cond (fun h => ?_) (fun h => ?_)
  · simp only [decide_eq_true_eq] at h
    have hil : i < n := by omega
    refine s_skip (s_block (d_run ?_))
    refine e_cond (fun h2 => ?_) (fun h2 => ?_)
    · exfalso; simp at h2
    · refine p_skip (e_run ?_)
      exact lp_next (i + 1) (by omega) (σ := [some 0]) (fz := []) (wk _ [] _ _ (vals := .cons (.one (.exv rfl rfl)) (.cons (.nlv rfl) (.cons (.nlv rfl) (.cons (.nlv rfl) (.cons (.one (.junk _)) (.cons (.one (.junk _)) (.cons (.one (.junk _)) .nil))))))) (blks := .cons bs_same .nil))
  · simp only [decide_eq_false_iff_not] at h
    refine s_exit ?_
    refine s_run ?_
    exact p_ret (fin ⟨rfl, rfl⟩)
/-- A list of one's own against what it holds, beside whatever else is there. -/
theorem prg_intsO {T L : List PV} {O : List Bool} {md : List Nat} {cnt lo l0 l1 l2 : Nat} {hp : PH} {dr : Bool} {p : List Nat} {ops : List AOper} {Q : List PV → PH → Prop} {gd : Option (AM.Src × Bool)} {x y : AM.Src} {v : PV} {xs : List Int} (hx : psev T L x = some v) (hy : psev T L y = some (encI xs)) (hv : OwnV hp v xs.length (rowI .i64 xs) l1 l2) (hn : xs.length < 1000000000) (hk : ∀ md' cnt', PRg E p dr T ops l0 ⟨.s (.bool true) :: L, false :: O, hp, md', cnt'⟩ Q) (hg : pwanted T L gd = some true := by rfl) : PRg E p dr T (⟨.call (.func 16) [x, y], gd, lo⟩ :: ops) l0 ⟨L, O, hp, md, cnt⟩ Q := by
  obtain ⟨b, full, rfl, h1, h2, h3⟩ := hv
  refine prg_kcall (st := ⟨L, O, hp, md, cnt⟩) (vs := [.exv 1 b xs.length, encI xs]) (x := b) (w := .s (.bool true)) h3 (intsX_ok xs hn) (.cons (.one (.exv rfl rfl)) (.cons (.nlv rfl) .nil)) rfl rfl (fun _ => rfl) hk rfl ?_ hg
  simp only [pevs, hx, hy]
theorem cloneO_ok (n k : Nat) (row : Nat → List PV) (hn : n < 100000000) : PCall E [] 53 [.frz 1 n k row] [] (fun v hp => v = .vec 1 0 n ∧ hp = [.vec 1 n row false]) := by
  refine p_call (fun _ _ => rfl) rfl ?_
  show PTri E false [] _ [.frz 1 n k row, .junk, .junk] _ _
  refine p_post ?_
  refine s_run ?_
  refine s_ass (s_reg ?_)
  refine prg_isnil rfl rfl fun t ht => ?_
  refine g_end ?_
  refine s_cond (fun h => ?_) (fun h => ?_)
  · have h0 : n = 0 := by cases t <;> simp_all
    subst h0
    refine s_ass (s_run ?_)
    refine s_ret ?_
    exact ⟨[none], [], [.junk, .vec 1 0 0, .junk], [.vec 1 0 row false], wk _ [] _ _ (vals := .cons (.one (.junk _)) (.cons (.one (.nil rfl)) (.cons (.one (.junk _)) .nil))) (blks := .cons (.nil rfl) .nil), fin ⟨rfl, rfl⟩⟩
  · refine s_skip (s_run ?_ (hq := by simp only [room, true_and, and_true]; omega))
    refine p_ret ?_
    exact ⟨[some 1], [], [.junk, .vec 1 0 n, .junk], [.vec 1 n row false], wk _ [] _ _ (vals := .cons (.one (.junk _)) (.cons (.one (.vec rfl (Nat.zero_add n))) (.cons (.one (.junk _)) .nil))) (blks := .cons (.vec rfl (by simp) rfl (Nat.le_of_eq (Nat.zero_add n).symm) (fun h => nomatch h) fun _ _ => rfl) .nil), fin ⟨rfl, rfl⟩⟩
theorem clipO_ok (n : Nat) (row : Nat → List PV) (full : Bool) : PCall E [0] 52 [.vec 1 0 n] [.vec 1 n row full] (fun v hp => v = .exv 1 0 n ∧ hp = [.vec 1 n row false]) := by
  refine p_call (fun _ _ => rfl) rfl ?_
  show PTri E false [0] _ [.vec 1 0 n, .junk] _ _
  refine p_post ?_
  refine s_run ?_
  refine s_reg (g_run 2 ?_)
  refine prg_clip rfl rfl rfl ?_
  refine g_end ?_
  refine p_ret ?_
  exact ⟨[some 0], [], [.junk, .exv 1 0 n], [.vec 1 n row false], wk _ [] _ _ (vals := .cons (.one (.junk _)) (.cons (.one (.exv rfl rfl)) .nil)) (blks := .cons (.vec rfl (by simp) rfl (Nat.le_refl _) (fun h => nomatch h) fun _ _ => rfl) .nil), fin ⟨rfl, rfl⟩⟩
theorem nextO_ok {f : Fn} (hf : Fit f.code) (a : Int) : PCall E [] 17 [encF f, i64 a] [] (ownQ (nextI f.code a)) := by
  have f1 := hf.len
  refine p_call (fun _ _ => rfl) rfl ?_
  show PTri E false [] _ [encF f, i64 a, .junk, .junk, .junk, .junk, .junk] _ _
  refine p_post ?_
  refine s_run ?_
  have f3 : in64 a → True := fun _ => trivial
  refine s_ass (s_reg (g_run 1 ?_))
  refine prg_split (fun h1 => ?_) (fun h1 => ?_)
  · simp only [decide_eq_true_eq] at h1
    refine g_end ?_
    refine s_t (s_ass (s_run ?_))
    refine s_ret ?_
    rw [nextI_out (by omega)]
    exact ⟨[none], [], [.junk, .junk, .junk, .exv 1 0 0, .junk, .junk, .junk], [.vec 1 0 (rowI .i64 []) false], wk _ [] _ _ (vals := by (repeat' (first | exact VSubs.nil | apply VSubs.cons | exact VSub.one (VSub1.junk _) | exact VSub.one (VSub1.nilE rfl)))) (blks := .cons (.nil rfl) .nil), fin ⟨rfl, rfl⟩⟩
  simp only [decide_eq_false_iff_not] at h1
  obtain ⟨a, rfl⟩ : ∃ b : Nat, a = b := ⟨a.toNat, by omega⟩
  refine g_run 5 ?_
  refine prg_split (fun h2 => ?_) (fun h2 => ?_)
  · simp only [ge_iff_le, decide_eq_true_eq] at h2
    refine g_end ?_
    refine s_t (s_ass (s_run ?_))
    refine s_ret ?_
    rw [nextI_out (by omega)]
    exact ⟨[none], [], [.junk, .junk, .junk, .exv 1 0 0, .junk, .junk, .junk], [.vec 1 0 (rowI .i64 []) false], wk _ [] _ _ (vals := by (repeat' (first | exact VSubs.nil | apply VSubs.cons | exact VSub.one (VSub1.junk _) | exact VSub.one (VSub1.nilE rfl)))) (blks := .cons (.nil rfl) .nil), fin ⟨rfl, rfl⟩⟩
  simp only [ge_iff_le, decide_eq_false_iff_not] at h2
  have ha : a < f.code.length := by omega
  refine g_end ?_
  refine s_f (s_skip ?_)
  refine s_reg (g_run 2 ?_)
  refine g_call (to_ok hf ha) ?_
  rintro v ⟨x, y, rfl, hxy⟩
  refine ⟨rfl, ?_⟩
  refine g_end ?_
  have hl2 := nextL_len f.code a
  refine p_weak [] [1] (wk [] [1] [.junk, .junk, .junk, .junk, .fptr 1 2 (fun i => ([i64 x, i64 y].drop (i * 1)).take 1) 0 0, i64 ((nextL f.code a).length : Nat), .junk] [] (vals := ?_)) ?_
  · refine .cons (.one (.junk _)) (.cons (.one (.junk _)) (.cons (.one (.junk _)) (.cons (.one (.junk _)) (.cons (.one ?_) (.cons (.nlv rfl) (.cons (.one (.junk _)) .nil))))))
    exact .ptrf (by decide) rfl (by omega) rfl (by simp) rfl fun i hi => rfl
  refine s_reg (g_run 1 ?_)
  refine g_scall [] [] (args' := [.frz 1 (nextL f.code a).length 2 (fun i => ([i64 x, i64 y].drop (i * 1)).take 1)]) (hpc := []) (cloneO_ok (nextL f.code a).length 2 _ (by omega)) (wk _ [] _ _ (vals := .cons (.nlv rfl) .nil) (blks := .nil)) ?_
  rintro v hpc' ⟨rfl, rfl⟩
  refine ⟨rfl, rfl, Nat.zero_le _, ?_⟩
  refine g_scall [0] [] (args' := [.vec 1 0 (nextL f.code a).length]) (hpc := [.vec 1 (nextL f.code a).length (fun i => ([i64 x, i64 y].drop (i * 1)).take 1) false]) (clipO_ok _ _ _) (wk _ [] _ _ (vals := .cons (.one (.vec rfl rfl)) .nil) (blks := .cons bs_same .nil)) ?_
  rintro v hpc' ⟨rfl, rfl⟩
  refine ⟨rfl, rfl, Nat.le_refl _, ?_⟩
  refine g_end ?_
  refine p_ret ?_
  rw [nextI_nat ha]
  exact ⟨[some 0], [], [.junk, .junk, .junk, .exv 1 0 (nextL f.code a).length, .junk, .junk, .junk], [.vec 1 (nextL f.code a).length (rowI .i64 (nextL f.code a)) false], wk _ [] _ _ (vals := by (repeat' (first | exact VSubs.nil | apply VSubs.cons | exact VSub.one (VSub1.junk _) | exact VSub.one (VSub1.exv rfl rfl)))) (blks := .cons (.vec rfl (by simp) rfl (Nat.le_refl _) (fun h => nomatch h) (two_rows hxy rfl)) .nil), fin ⟨rfl, rfl⟩⟩
theorem aheadO_ok {f : Fn} (hf : Fit f.code) (a : Int) : PCall E [] 18 [encF f, i64 a] [] (ownQ (aheadI f.code a)) := by
  have f1 := hf.len
  have f2 := edgesL_len f.code
  refine p_call (fun _ _ => rfl) rfl ?_
  show PTri E false [] _ [encF f, i64 a, .junk, .junk, .junk, .junk, .junk, .junk, .junk, .junk, .junk, .junk] _ _
  refine p_post ?_
  refine s_run ?_
  refine s_run ?_
  refine s_ass (s_reg (g_run 2 ?_))
  refine g_call (edges_ok f.code) ?_
  rintro v rfl
  refine ⟨rfl, ?_⟩
  refine g_end ?_
  refine p_weak [some 0, some 1, some 2, none] [] (wk _ [] [encF f, i64 a, .ptr 0 0, .ptr 1 0, .s (.slice none 0 0), .ptr 2 0, .junk, .junk, seqF f.code, .junk, .junk, .junk] [.cel (cellsF f), .cel [i64 a], .cel [.vec 1 3 0], .vec 1 0 (rowI .i64 []) true] (blks := .cons bs_cel (.cons bs_cel (.cons (.cel rfl (by decide) rfl (.cons (.one (.nil rfl)) .nil)) (.cons (.nil rfl) .nil))))) ?_
  refine s_block ?_
  refine p_range [4, 0, 1, 2] (PCall.mono (edges1_ok hf [0, 1, 2] (S := fun k hp => hp = [.cel (cellsF f), .cel [i64 a], .cel [.vec 1 3 (leadN ((edgesL f.code).take k) a).length], .vec 1 (leadN ((edgesL f.code).take k) a).length (rowI .i64 (leadN ((edgesL f.code).take k) a)) true, lrec GraphAwake.c18.body 0 [encF f, i64 a, .ptr 0 0, .ptr 1 0, .s (.slice none 0 0), .ptr 2 0, .junk, .junk, seqF f.code, .junk, .junk, .junk] .ready none]) (S' := fun _ => False) ?_ rfl) ?_)
  · rintro k hp x y he rfl
    have hkl := (List.getElem?_eq_some_iff.1 he).1
    have htk : (edgesL f.code).take (k + 1) = (edgesL f.code).take k ++ [(x, y)] := by
      rw [List.take_add_one, he]; rfl
    have hln := leadN_len ((edgesL f.code).take k) a
    have hlt : ((edgesL f.code).take k).length ≤ 2 * f.code.length := Nat.le_trans (by rw [List.length_take]; exact Nat.min_le_right _ _) f2
    have hl1 : leadN ((edgesL f.code).take (k + 1)) a = leadN ((edgesL f.code).take k) a ++ (if y = a then [x] else []) := by
      rw [htk, leadN_app]
      congr 1
      by_cases e : y = a <;> simp [leadN, e]
    refine p_round (by decide) rfl rfl ?_
    refine s_run ?_
    refine e_run ?_
    refine ⟨rfl, _, rfl, ?_⟩
    refine p_post (p_block (s_run ?_))
    refine e_cond (fun h => ?_) (fun h => ?_)
    · simp only [beq_iff_eq] at h
      rw [if_pos h] at hl1
      have hlen : (leadN ((edgesL f.code).take (k + 1)) a).length = (leadN ((edgesL f.code).take k) a).length + 1 := by rw [hl1]; simp
      refine e_run ?_ (hq := by simp only [room, true_and, and_true]; omega)
      refine ⟨[some 0, some 1, some 2, some 6, some 4], [], [.junk, .junk, .junk, .junk, .junk, .junk, .junk, .junk, .junk, .junk, .junk, .junk], [.cel (cellsF f), .cel [i64 a], .cel [.vec 1 3 (leadN ((edgesL f.code).take (k + 1)) a).length], .vec 1 (leadN ((edgesL f.code).take (k + 1)) a).length (rowI .i64 (leadN ((edgesL f.code).take (k + 1)) a)) true, lrec GraphAwake.c18.body 0 [encF f, i64 a, .ptr 0 0, .ptr 1 0, .s (.slice none 0 0), .ptr 2 0, .junk, .junk, seqF f.code, .junk, .junk, .junk] .busy none], wk _ [] _ _ (blks := ?_), ?_⟩
      · refine .cons bs_cel (.cons bs_cel (.cons (.cel rfl (by decide) rfl (.cons (.one (.vec rfl hlen.symm)) .nil)) (.cons (bs_vec hlen fun i hi => ?_) (.cons (.loop rfl (by decide) rfl ?_) .nil))))
        · rw [hl1]
          exact row1_push (en := i64) (d := 0) (x := x) (xs := leadN ((edgesL f.code).take k) a) (by omega)
        · exact .cons (.nlv rfl) (.cons (.nlv rfl) (.cons (.one (.ptr rfl)) (.cons (.one (.ptr rfl)) (.cons (.nlv rfl) (.cons (.one (.ptr rfl)) (.cons (.one (.junk _)) (.cons (.one (.junk _)) (.cons (.nlv rfl) (.cons (.one (.junk _)) (.cons (.one (.junk _)) (.cons (.one (.junk _)) .nil)))))))))))
      · exact ⟨_, rfl, .inl ⟨rfl, rfl⟩⟩
    · simp only [beq_eq_false_iff_ne, ne_eq] at h
      rw [if_neg h, List.append_nil] at hl1
      refine p_skip ?_
      refine ⟨[some 0, some 1, some 2, some 3, some 4], [], [.junk, .junk, .junk, .junk, .junk, .junk, .junk, .junk, .junk, .junk, .junk, .junk], [.cel (cellsF f), .cel [i64 a], .cel [.vec 1 3 (leadN ((edgesL f.code).take (k + 1)) a).length], .vec 1 (leadN ((edgesL f.code).take (k + 1)) a).length (rowI .i64 (leadN ((edgesL f.code).take (k + 1)) a)) true, lrec GraphAwake.c18.body 0 [encF f, i64 a, .ptr 0 0, .ptr 1 0, .s (.slice none 0 0), .ptr 2 0, .junk, .junk, seqF f.code, .junk, .junk, .junk] .busy none], wk _ [] _ _ (blks := ?_), ?_⟩
      · rw [hl1]
        refine .cons bs_cel (.cons bs_cel (.cons (.cel rfl (by decide) rfl (.cons (.one (.vec rfl rfl)) .nil)) (.cons bs_same (.cons (.loop rfl (by decide) rfl ?_) .nil))))
        exact .cons (.nlv rfl) (.cons (.nlv rfl) (.cons (.one (.ptr rfl)) (.cons (.one (.ptr rfl)) (.cons (.nlv rfl) (.cons (.one (.ptr rfl)) (.cons (.one (.junk _)) (.cons (.one (.junk _)) (.cons (.nlv rfl) (.cons (.one (.junk _)) (.cons (.one (.junk _)) (.cons (.one (.junk _)) .nil)))))))))))
      · exact ⟨_, rfl, .inl ⟨rfl, rfl⟩⟩
  · rintro v hp (rfl | h)
    · refine ⟨_, .norm, rfl, ?_⟩
      have hfin : leadN ((edgesL f.code).take (edgesL f.code).length) a = aheadI f.code a := by
        rw [List.take_length]; exact lead_ahead (Nat.le_refl _)
      rw [hfin]
      refine p_weak [some 2, some 3] [] (wk [some 2, some 3] [] [.junk, .junk, .junk, .junk, .junk, .ptr 0 0, .junk, .junk, .junk, .junk, .junk, .junk] [.cel [.vec 1 1 (aheadI f.code a).length], .vec 1 (aheadI f.code a).length (rowI .i64 (aheadI f.code a)) true] (blks := .cons (.cel rfl (by decide) rfl (.cons (.one (.vec rfl rfl)) .nil)) (.cons bs_same .nil))) ?_
      refine s_reg (g_run 1 ?_)
      refine g_scall [1] [] (args' := [.vec 1 0 (aheadI f.code a).length]) (hpc := [.vec 1 (aheadI f.code a).length (rowI .i64 (aheadI f.code a)) true]) (clipO_ok _ _ _) (wk _ [] _ _ (vals := .cons (.one (.vec rfl rfl)) .nil) (blks := .cons bs_same .nil)) ?_
      rintro v hpc' ⟨rfl, rfl⟩
      refine ⟨rfl, rfl, Nat.le_refl _, ?_⟩
      refine g_end ?_
      refine p_ret ?_
      exact ⟨[some 1], [], [.junk, .junk, .junk, .junk, .exv 1 0 (aheadI f.code a).length, .junk, .junk, .junk, .junk, .junk, .junk, .junk], [.vec 1 (aheadI f.code a).length (rowI .i64 (aheadI f.code a)) false], wk _ [] _ _ (vals := by (repeat' (first | exact VSubs.nil | apply VSubs.cons | exact VSub.one (VSub1.junk _) | exact VSub.one (VSub1.exv rfl rfl)))) (blks := .cons (.vec rfl (by simp) rfl (Nat.le_refl _) (fun h => nomatch h) fun _ _ => rfl) .nil), fin ⟨rfl, rfl⟩⟩
    · exact h.elim
end Go.Proofs.Ytdbehmepikhghaa.Graph
