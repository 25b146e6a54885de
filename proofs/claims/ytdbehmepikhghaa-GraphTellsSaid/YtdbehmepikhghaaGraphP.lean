/- The first address without a way out, from the end. -/
import Derived.Test.YtdbehmepikhghaaGraphN
set_option linter.unusedVariables false
set_option linter.unusedSimpArgs false
set_option maxRecDepth 10000
namespace Go.Proofs.Ytdbehmepikhghaa.Graph
open Go.Proofs.Ytdbehmepikhghaa.AM
theorem exit1_ok {n : Nat} (rows : Nat → List Int) {a : Nat} (ha : a < n) : PFun E 58 [i64 (a : Nat), .fptr 1 1 (fun _ => [.frz 1 n n fun i => [encI (rows i)]]) 0 0] (valQ (isV (encI (rows a)))) := by
  refine p_fun ?_
  show PTri E false [] _ [i64 (a : Nat), .fptr 1 1 (fun _ => [.frz 1 n n fun i => [encI (rows i)]]) 0 0, .junk] _ _
  refine s_run ?_
  refine s_run ?_
  exact p_ret fin_v
/-- What is reached from the end, against the edges. -/
noncomputable def exitB (code : List (Int × Int)) : List Bool := reachG (code.length + 1) (fun a => aheadI code (a : Nat)) code.length
noncomputable def exitW (code : List (Int × Int)) : PV := if false ∈ exitB code then .tup [i64 ((exitB code).idxOf false : Nat), .s (.bool true)] else .tup [i64 0, .s (.bool false)]
theorem aheadN_mem {code : List (Int × Int)} {a c : Int} {k : Nat} (h : c ∈ aheadN code a k) : ∃ j : Nat, c = j ∧ j < k := by
  induction k with
  | zero => simp [aheadN] at h
  | succ k ih =>
    rw [aheadN_succ] at h
    split at h
    · rcases List.mem_append.1 h with h | h
      · obtain ⟨j, h1, h2⟩ := ih h
        exact ⟨j, h1, by omega⟩
      · simp at h
        exact ⟨k, h, by omega⟩
    · obtain ⟨j, h1, h2⟩ := ih h
      exact ⟨j, h1, by omega⟩
theorem edgesN_mem {code : List (Int × Int)} {k : Nat} {x : Int × Int} (hk : k ≤ code.length) (h : x ∈ edgesN code k) : ∃ a b : Nat, x = ((a : Int), (b : Int)) ∧ a < k ∧ (b : Int) ∈ nextL code a := by
  unfold edgesN at h
  obtain ⟨a, h1, h2⟩ := List.mem_flatMap.1 h
  obtain ⟨b, h3, rfl⟩ := List.mem_map.1 h2
  have ha := List.mem_range.1 h1
  obtain ⟨j, rfl, _⟩ := next_lt (code := code) (a := (a : Int)) (by rw [nextI_nat (by omega)]; exact h3)
  exact ⟨a, j, rfl, ha, h3⟩
theorem lead_push {l : List (Int × Int)} {x : Int} {b : Nat} : (fun j : Nat => leadN (l ++ [(x, (b : Int))]) (j : Int)) = updR (fun j : Nat => leadN l (j : Int)) b (leadN l (b : Int) ++ [x]) := by
  funext j
  rw [leadN_app]
  unfold updR
  by_cases h : j = b
  · subst h
    rw [if_pos rfl]; simp [leadN]
  · rw [if_neg h]
    have : ¬ (b : Int) = (j : Int) := by omega
    simp [leadN, this]
def tE (f : Fn) (x4 x9 x10 x11 : PV) : List PV := [encF f, .ptr 0 0, i64 0, .s (.bool false), x4, .junk, .junk, .junk, .junk, x9, x10, x11, .junk]
theorem exit_ok {f : Fn} (hf : Fit f.code) : PFun E 23 [encF f] (valQ (isV (exitW f.code))) := by
  have f1 := hf.len
  have f2 := edgesL_len f.code
  refine p_fun ?_
  show PTri E false [] _ [encF f, .junk, .junk, .junk, .junk, .junk, .junk, .junk, .junk, .junk, .junk, .junk, .junk] _ _
  refine s_run ?_
  refine s_run ?_ (hq := by simp only [and_true, true_and, in64]; omega)
  refine s_ass (s_reg (g_run 2 ?_))
  refine g_call (edges_ok f.code) ?_
  rintro v rfl
  refine ⟨rfl, ?_⟩
  refine g_end ?_
  have hcl : ∀ j c, (List.replicate (f.code.length + 1) (PV.s (.slice none 0 0)))[j]? = some c → (List.map PV.s [Value.slice none 0 0]) = [c] := fun j c h => by
    rw [List.getElem?_replicate] at h
    split at h
    · cases h; rfl
    · cases h
  refine p_weak [some 0, some 1, some 2] [] (wk _ [] (tE f (.ptr 2 0) (seqF f.code) .junk .junk) [.cel (cellsF f), .cel (List.replicate (f.code.length + 1) (.s (.slice none 0 0))), .cel [.vec 1 1 (f.code.length + 1)]] (blks := .cons bs_cel (.cons (.veccel rfl (by decide) rfl (Nat.succ_pos _) (by simp) hcl) (.cons (.cel rfl (by decide) rfl (.cons (.one (.vec rfl rfl)) .nil)) .nil)))) ?_
  refine s_block ?_
  obtain ⟨S, hS⟩ : ∃ S : Nat → PH → Prop, S = fun k hp => hp[0]? = some (.cel (cellsF f)) ∧ hp[2]? = some (.cel [.vec 1 1 (f.code.length + 1)]) ∧ hp[3]? = some (lrec c23.body 0 (tE f (.ptr 2 0) (seqF f.code) .junk .junk) .ready none) ∧ 4 ≤ hp.length ∧ RowsAt hp 1 (f.code.length + 1) (fun j : Nat => leadN ((edgesL f.code).take k) (j : Int)) 4 := ⟨_, rfl⟩
  refine p_range [3, 0, 1, 2] (PCall.mono (edges1_ok hf [0, 1, 2] (S := S) (S' := fun _ => False) ?_ ?_) ?_)
  · rintro k hp x y he hSk
    rw [hS] at hSk
    obtain ⟨h0, h2, h3, hl, hr⟩ := hSk
    have hkl := (List.getElem?_eq_some_iff.1 he).1
    have htk : (edgesL f.code).take (k + 1) = (edgesL f.code).take k ++ [(x, y)] := by
      rw [List.take_add_one, he]; rfl
    obtain ⟨a, b, hxy, hak, hbm⟩ := edgesN_mem (Nat.le_refl _) (List.mem_of_getElem? he)
    cases hxy
    have hln := leadN_len ((edgesL f.code).take k) (b : Int)
    have hlt : ((edgesL f.code).take k).length ≤ 2 * f.code.length := Nat.le_trans (by rw [List.length_take]; exact Nat.min_le_right _ _) f2
    have hbn : b < f.code.length + 1 := by
      have := next_lt (code := f.code) (a := (a : Int)) (c := (b : Int)) (by rw [nextI_nat hak]; exact hbm)
      obtain ⟨k', e1, e2⟩ := this
      omega
    have hl3 : 3 < hp.length := by omega
    refine p_round (by decide) h3 rfl ?_
    refine s_pure ?_
    refine e_pure ?_
    refine ⟨rfl, _, h3, ?_⟩
    refine p_block (d_vvpush (t4 := 4) (t5 := 5) (t6 := 6) (kb := 2) (bk := 1) (n := f.code.length + 1) (i := b) (x := (a : Int)) (lw := 4) rfl rfl rfl hbn (by rw [List.getElem?_set_ne (by decide)]; exact h2) (hr.keep (by rw [List.getElem?_set_ne (by decide)]) fun j h1 _ => by rw [List.getElem?_set_ne (by omega)]) (by decide) (by decide) (by decide) (by simp only [room]; omega) (fun hp' ho hr' => ?_) (by simpa using hl))
    have g3 := ho 3 (by decide) (by decide)
    rw [List.getElem?_set_self hl3] at g3
    have g0 := ho 0 (by decide) (by decide)
    have g2 := ho 2 (by decide) (by decide)
    rw [List.getElem?_set_ne (by decide)] at g0 g2
    have hl' := (List.getElem?_eq_some_iff.1 g3).1
    refine ⟨_, g3, .inl ⟨rfl, ?_⟩⟩
    rw [hS]
    refine ⟨by rw [List.getElem?_set_ne (by decide), g0, h0], by rw [List.getElem?_set_ne (by decide), g2, h2], List.getElem?_set_self hl', by rw [List.length_set]; omega, ?_⟩
    rw [htk, lead_push]
    exact hr'.keep (by rw [List.getElem?_set_ne (by decide)]) fun j h1 _ => by rw [List.getElem?_set_ne (by omega)]
  · rw [hS]
    exact ⟨rfl, rfl, rfl, Nat.le_refl 4, RowsAt.start rfl⟩
  · rintro v hp (h | h)
    · rw [hS] at h
      obtain ⟨h0, h2, h3, hl, hr⟩ := h
      refine ⟨_, .norm, h3, ?_⟩
      rw [List.take_length] at hr
      have hrow : (fun j : Nat => leadN (edgesL f.code) (j : Int)) = fun j : Nat => aheadI f.code (j : Int) := funext fun j => lead_ahead (Nat.le_refl _)
      rw [hrow] at hr
      have g0 : (hp.set 3 PB.dead)[0]? = some (.cel (cellsF f)) := by rw [List.getElem?_set_ne (by decide)]; exact h0
      have g2 : (hp.set 3 PB.dead)[2]? = some (.cel [.vec 1 1 (f.code.length + 1)]) := by rw [List.getElem?_set_ne (by decide)]; exact h2
      have gr := hr.keep (hp' := hp.set 3 PB.dead) (by rw [List.getElem?_set_ne (by decide)]) fun j h1 _ => by rw [List.getElem?_set_ne (by omega)]
      obtain ⟨fz, z1, z2, z3⟩ := gr.frz
      show PTri E false [] _ (tE f (.ptr 2 0) (seqF f.code) .junk .junk) (hp.set 3 PB.dead) _
      generalize hp.set 3 PB.dead = hq at g0 g2 gr z3 ⊢
      have n0 : 0 ∉ fz := fun h => by have := z2 0 h; omega
      have n2 : 2 ∉ fz := fun h => by have := z2 2 h; omega
      refine p_weak [some 0, some 2] fz (wk _ fz (tE f (.ptr 1 0) .junk .junk .junk) [.cel (cellsF f), .cel [.frz 1 (f.code.length + 1) (f.code.length + 1) fun i => [encI (aheadI f.code (i : Nat))]]] (vals := ?_) (blks := .cons (bs_cel (hf := n0) (hb := g0)) (.cons (.cel rfl n2 g2 (.cons (.one (z3 _)) .nil)) .nil))) ?_
      · unfold tE
        repeat' (first | exact VSubs.nil | apply VSubs.cons | exact VSub.one (VSub1.junk _) | exact VSub.nlv rfl | exact VSub.one (VSub1.ptr rfl))
      refine p_weak [some 0] [1] (wk _ [1] (tE f (.fptr 1 1 (fun _ => [.frz 1 (f.code.length + 1) (f.code.length + 1) fun i => [encI (aheadI f.code (i : Nat))]]) 0 0) .junk .junk .junk) [.cel (cellsF f)] (vals := ?_) (blks := .cons bs_cel .nil)) ?_
      · have hptr : VSub1 [some 0] [1] [PB.cel (cellsF f), .cel [.frz 1 (f.code.length + 1) (f.code.length + 1) fun i => [encI (aheadI f.code (i : Nat))]]] (.ptr 1 0) (.fptr 1 1 (fun _ => [.frz 1 (f.code.length + 1) (f.code.length + 1) fun i => [encI (aheadI f.code (i : Nat))]]) 0 0) := .ptrf (by decide) rfl (by omega) rfl (by simp) rfl fun i hi => by
          have : i = 0 := by omega
          subst this; rfl
        unfold tE
        repeat' (first | exact VSubs.nil | apply VSubs.cons | exact VSub.one (VSub1.junk _) | exact VSub.nlv rfl | exact VSub.one (VSub1.ptr rfl) | exact VSub.one hptr)
      refine s_reg (g_run 6 ?_)
      refine g_call (visit_ok (N := f.code.length + 1) (by omega) (f.code.length : Nat) (nx := fun a => aheadI f.code (a : Nat)) (fun a ha => exit1_ok (fun i => aheadI f.code (i : Nat)) ha) (fun a _ c hc => by
        obtain ⟨j, e1, e2⟩ := aheadN_mem hc
        exact ⟨j, e1, by omega⟩) (fun a _ => by
        have := aheadN_len f.code (a : Nat) f.code.length
        show (aheadN f.code _ _).length < _
        omega)) ?_
      rintro v rfl
      refine ⟨rfl, ?_⟩
      refine g_end ?_
      have hlen : (exitB f.code).length = f.code.length + 1 := reachG_len _ _ _
      refine s_ass (s_reg ?_)
      refine g_call (index_ok (exitB f.code) (by omega)) ?_
      rintro v rfl
      refine ⟨rfl, ?_⟩
      refine g_end ?_
      unfold exitW
      by_cases hm : false ∈ exitB f.code
      · rw [if_pos hm, if_pos hm]
        refine s_ass (s_run ?_)
        refine s_cond (fun h => ?_) (fun h => ?_)
        · refine s_ass (s_run ?_)
          refine s_ret ?_
          exact fin_v
        · simp at h
      · rw [if_neg hm, if_neg hm]
        refine s_ass (s_run ?_)
        refine s_cond (fun h => ?_) (fun h => ?_)
        · simp at h
        · refine s_skip (s_run ?_)
          exact p_ret fin_v
    · exact h.elim
end Go.Proofs.Ytdbehmepikhghaa.Graph
