/- What leads to an address. -/
import Derived.Test.YtdbehmepikhghaaGraphJ
set_option linter.unusedVariables false
set_option linter.unusedSimpArgs false
set_option maxRecDepth 10000
namespace Go.Proofs.Ytdbehmepikhghaa.Graph
open Go.Proofs.Ytdbehmepikhghaa.AM
/-- What tells all edges of code. -/
def seqF (code : List (Int × Int)) : PV := .fn 74 [] [.fptr 1 1 (fun _ => [encC code]) 0 0]
theorem edges_ok (code : List (Int × Int)) : PFun E 49 [encC code] (valQ (isV (seqF code))) := by
  refine p_fun ?_
  show PTri E false [] _ [encC code, .junk, .junk] _ _
  refine s_run ?_
  refine s_run ?_
  refine p_ret ?_
  refine fin_z [0] rfl ?_
  rintro v rfl
  exact .fn .nil (.cons (.ptrf (by decide) rfl (by omega) rfl (by simp) rfl fun i hi => by
    have : i = 0 := by omega
    subst this; rfl) .nil)
theorem nextL_nodup (code : List (Int × Int)) (a : Nat) : (nextL code a).Nodup := by
  simp only [nextL]
  repeat' split
  all_goals first
    | exact List.nodup_nil
    | (simp only [List.nodup_cons, List.mem_singleton, List.not_mem_nil, not_false_iff, List.nodup_nil, and_true]; try omega)
def leadN (l : List (Int × Int)) (a : Int) : List Int := (l.filter fun x => decide (x.2 = a)).map (·.1)
theorem leadN_app (l m : List (Int × Int)) (a : Int) : leadN (l ++ m) a = leadN l a ++ leadN m a := by simp [leadN]
theorem lead_map {k : Int} {a : Int} : ∀ {l : List Int}, l.Nodup → leadN (l.map fun b => (k, b)) a = if a ∈ l then [k] else []
  | [], _ => by simp [leadN]
  | b :: l, h => by
    have hn := List.nodup_cons.1 h
    have ih := lead_map (k := k) (a := a) hn.2
    have : leadN ((b :: l).map fun b => (k, b)) a = (if b = a then [k] else []) ++ leadN (l.map fun b => (k, b)) a := by
      simp only [leadN, List.map_cons, List.filter_cons]
      by_cases e : b = a
      · simp [e]
      · simp [e]
    rw [this, ih]
    by_cases e : b = a
    · subst e; rw [if_pos rfl, if_neg hn.1, if_pos (by simp)]; rfl
    · rw [if_neg e]
      have : (a ∈ b :: l) ↔ a ∈ l := by simp [Ne.symm e]
      simp only [this, List.nil_append]
theorem lead_ahead {code : List (Int × Int)} {a : Int} {k : Nat} (hk : k ≤ code.length) : leadN (edgesN code k) a = aheadN code a k := by
  induction k with
  | zero => rfl
  | succ k ih =>
    rw [edgesN_succ, leadN_app, ih (by omega), lead_map (nextL_nodup _ _), aheadN_succ, nextI_nat (by omega)]
    split
    · rfl
    · simp
theorem edgesL_len (code : List (Int × Int)) : (edgesL code).length ≤ 2 * code.length := by
  have : ∀ k, (edgesN code k).length ≤ 2 * k := by
    intro k
    induction k with
    | zero => simp [edgesN]
    | succ k ih => rw [edgesN_succ, List.length_append, List.length_map]; have := nextL_len code k; omega
  exact this _
theorem leadN_len (l : List (Int × Int)) (a : Int) : (leadN l a).length ≤ l.length := by
  unfold leadN; rw [List.length_map]; exact List.length_filter_le _ _
theorem ahead_ok {f : Fn} (hf : Fit f.code) (a : Int) : PFun E 18 [encF f, i64 a] (valQ (isV (encI (aheadI f.code a)))) := by
  have f1 := hf.len
  have f2 := edgesL_len f.code
  refine p_fun ?_
  show PTri E false [] _ [encF f, i64 a, .junk, .junk, .junk, .junk, .junk, .junk, .junk, .junk, .junk, .junk] _ _
  refine s_run ?_
  refine s_run ?_
  refine s_ass (s_reg (g_run 2 ?_))
  refine g_call (edges_ok f.code) ?_
  rintro v rfl
  refine ⟨rfl, ?_⟩
  refine g_end ?_
  refine p_weak [some 0, some 1, some 2, none] [] (wk _ [] [encF f, i64 a, .ptr 0 0, .ptr 1 0, .s (.slice none 0 0), .ptr 2 0, .junk, .junk, seqF f.code, .junk, .junk, .junk] [.cel (cellsF f), .cel [i64 a], .cel [.vec 1 3 0], .vec 1 0 (rowI .i64 []) true] (blks := .cons bs_cel (.cons bs_cel (.cons (.cel rfl (by decide) rfl (.cons (.one (.nil rfl)) .nil)) (.cons (.nil rfl) .nil))))) ?_
  refine s_block ?_
  refine p_range [4, 0, 1, 2] (PCall.mono (edges1_ok hf [0, 1, 2] (S := fun k hp => hp = [.cel (cellsF f), .cel [i64 a], .cel [.vec 1 3 (leadN ((edgesL f.code).take k) a).length], .vec 1 (leadN ((edgesL f.code).take k) a).length (rowI .i64 (leadN ((edgesL f.code).take k) a)) true, lrec GraphAwake.c18.body 0 [encF f, i64 a, .ptr 0 0, .ptr 1 0, .s (.slice none 0 0), .ptr 2 0, .junk, .junk, seqF f.code, .junk, .junk, .junk] .ready none]) (S' := fun _ => False) ?_ rfl) ?_)
  · rintro k hp x y he rfl
    have hkl := (List.getElem?_eq_some_iff.1 he).1
    have htk : (edgesL f.code).take (k + 1) = (edgesL f.code).take k ++ [(x, y)] := by
      rw [List.take_add_one, he]; rfl
    have hln := leadN_len ((edgesL f.code).take k) a
    have hlt : ((edgesL f.code).take k).length ≤ 2 * f.code.length := Nat.le_trans (by rw [List.length_take]; exact Nat.min_le_right _ _) f2
    have hl1 : leadN ((edgesL f.code).take (k + 1)) a = leadN ((edgesL f.code).take k) a ++ (if y = a then [x] else []) := by
      rw [htk, leadN_app]
      congr 1
      by_cases e : y = a <;> simp [leadN, e]
    refine p_round (by decide) rfl rfl ?_
    refine s_run ?_
    refine e_run ?_
    refine ⟨rfl, _, rfl, ?_⟩
    refine p_post (p_block (s_run ?_))
    refine e_cond (fun h => ?_) (fun h => ?_)
    · simp only [beq_iff_eq] at h
      rw [if_pos h] at hl1
      have hlen : (leadN ((edgesL f.code).take (k + 1)) a).length = (leadN ((edgesL f.code).take k) a).length + 1 := by rw [hl1]; simp
      refine e_run ?_ (hq := by simp only [room, true_and, and_true]; omega)
      refine ⟨[some 0, some 1, some 2, some 6, some 4], [], [.junk, .junk, .junk, .junk, .junk, .junk, .junk, .junk, .junk, .junk, .junk, .junk], [.cel (cellsF f), .cel [i64 a], .cel [.vec 1 3 (leadN ((edgesL f.code).take (k + 1)) a).length], .vec 1 (leadN ((edgesL f.code).take (k + 1)) a).length (rowI .i64 (leadN ((edgesL f.code).take (k + 1)) a)) true, lrec GraphAwake.c18.body 0 [encF f, i64 a, .ptr 0 0, .ptr 1 0, .s (.slice none 0 0), .ptr 2 0, .junk, .junk, seqF f.code, .junk, .junk, .junk] .busy none], wk _ [] _ _ (blks := ?_), ?_⟩
      · refine .cons bs_cel (.cons bs_cel (.cons (.cel rfl (by decide) rfl (.cons (.one (.vec rfl hlen.symm)) .nil)) (.cons (bs_vec hlen fun i hi => ?_) (.cons (.loop rfl (by decide) rfl ?_) .nil))))
        · rw [hl1]
          exact row1_push (en := i64) (d := 0) (x := x) (xs := leadN ((edgesL f.code).take k) a) (by omega)
        · exact .cons (.nlv rfl) (.cons (.nlv rfl) (.cons (.one (.ptr rfl)) (.cons (.one (.ptr rfl)) (.cons (.nlv rfl) (.cons (.one (.ptr rfl)) (.cons (.one (.junk _)) (.cons (.one (.junk _)) (.cons (.nlv rfl) (.cons (.one (.junk _)) (.cons (.one (.junk _)) (.cons (.one (.junk _)) .nil)))))))))))
      · exact ⟨_, rfl, .inl ⟨rfl, rfl⟩⟩
    · simp only [beq_eq_false_iff_ne, ne_eq] at h
      rw [if_neg h, List.append_nil] at hl1
      refine p_skip ?_
      refine ⟨[some 0, some 1, some 2, some 3, some 4], [], [.junk, .junk, .junk, .junk, .junk, .junk, .junk, .junk, .junk, .junk, .junk, .junk], [.cel (cellsF f), .cel [i64 a], .cel [.vec 1 3 (leadN ((edgesL f.code).take (k + 1)) a).length], .vec 1 (leadN ((edgesL f.code).take (k + 1)) a).length (rowI .i64 (leadN ((edgesL f.code).take (k + 1)) a)) true, lrec GraphAwake.c18.body 0 [encF f, i64 a, .ptr 0 0, .ptr 1 0, .s (.slice none 0 0), .ptr 2 0, .junk, .junk, seqF f.code, .junk, .junk, .junk] .busy none], wk _ [] _ _ (blks := ?_), ?_⟩
      · rw [hl1]
        refine .cons bs_cel (.cons bs_cel (.cons (.cel rfl (by decide) rfl (.cons (.one (.vec rfl rfl)) .nil)) (.cons bs_same (.cons (.loop rfl (by decide) rfl ?_) .nil))))
        exact .cons (.nlv rfl) (.cons (.nlv rfl) (.cons (.one (.ptr rfl)) (.cons (.one (.ptr rfl)) (.cons (.nlv rfl) (.cons (.one (.ptr rfl)) (.cons (.one (.junk _)) (.cons (.one (.junk _)) (.cons (.nlv rfl) (.cons (.one (.junk _)) (.cons (.one (.junk _)) (.cons (.one (.junk _)) .nil)))))))))))
      · exact ⟨_, rfl, .inl ⟨rfl, rfl⟩⟩
  · rintro v hp (rfl | h)
    · refine ⟨_, .norm, rfl, ?_⟩
      have hfin : leadN ((edgesL f.code).take (edgesL f.code).length) a = aheadI f.code a := by
        rw [List.take_length]; exact lead_ahead (Nat.le_refl _)
      rw [hfin]
      refine p_weak [some 2] [3] (wk [some 2] [3] [.junk, .junk, .junk, .junk, .junk, .ptr 0 0, .junk, .junk, .junk, .junk, .junk, .junk] [.cel [encI (aheadI f.code a)]] (blks := .cons (.cel rfl (by decide) rfl (.cons (.one (.vecf (by decide) rfl rfl (Nat.le_refl _) (Nat.le_refl _) fun i hi => rfl)) .nil)) .nil)) ?_
      refine s_reg (g_run 1 ?_)
      refine g_call (clip_ok (aheadI f.code a).length (aheadI f.code a).length (rowI .i64 (aheadI f.code a)) (Nat.le_refl _)) ?_
      rintro v rfl
      refine ⟨rfl, ?_⟩
      refine g_end ?_
      exact p_ret fin_v
    · exact h.elim
end Go.Proofs.Ytdbehmepikhghaa.Graph
