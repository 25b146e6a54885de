/- What was handed out is apart: lists of labels are written over and gone on with (ApartLabels). -/
import Derived.Test.YtollibkfagjnaaaFrOc
import Derived.Test.YtollibkfagjnaaaTabA
import Derived.Test.YtollibkfagjnaaaShapeKitA
set_option linter.unusedVariables false
set_option linter.unusedSimpArgs false
set_option maxRecDepth 10000
namespace Go.Proofs.Ytollibkfagjnaaa.Shape.Kit
open Go.Proofs.Ytollibkfagjnaaa.AM
theorem psplice1' {l : List PV} {v : PV} (h : l.length = 1) : psplice l 0 [v] = [v] := by
  match l, h with
  | [a], _ => rfl
theorem tabw_cell {hp : PH} {bk m i : Nat} {len : Nat → Nat} {P : Nat → Nat → Prop} (h : TabW hp bk m len P) (hi : i < m) : len i ≤ 17592186044000 ∧ ∃ cs b mx f full, hp[bk]? = some (.cel cs) ∧ cs[i]? = some (.vec 1 b (len i)) ∧ hp[b]? = some (.vec 1 mx f full) ∧ len i ≤ mx ∧ (∀ j, j < len i → (f j).length = 1) ∧
    ∀ k, k < len i → TabW (hp.set b (.vec 1 mx (fun j => if j = k then [.s (mkU i k)] else f j) full)) bk m len (fun r j => P r j ∨ r = i ∧ j = k) := by
  obtain ⟨cs, ptr, h1, h2, h3, h4⟩ := h
  obtain ⟨q1, q2, mx, f, full, q3, q4, q5, q6⟩ := h3 i hi
  refine ⟨q1, cs, ptr i, mx, f, full, h1, q2, q3, q4, q5, fun k hk => ?_⟩
  have hne : ptr i ≠ bk := fun e => by rw [e, h1] at q3; cases q3
  refine ⟨cs, ptr, by rw [List.getElem?_set_ne hne]; exact h1, h2, fun r hr => ?_, h4⟩
  obtain ⟨z1, z2, mx', f', full', z3, z4, z5, z6⟩ := h3 r hr
  by_cases e : r = i
  · subst e
    rw [q3] at z3; cases z3
    refine ⟨z1, z2, mx, _, full, List.getElem?_set_self (List.getElem?_eq_some_iff.1 q3).1, z4, fun j hj => ?_, fun j hj hp => ?_⟩
    · split
      · rfl
      · exact z5 j hj
    · by_cases e : j = k
      · rw [if_pos e, e]
      · rw [if_neg e]
        exact z6 j hj (hp.resolve_right fun h => e h.2)
  · have hpn : ptr i ≠ ptr r := fun x => e (h4 r i hr hi x.symm)
    exact ⟨z1, z2, mx', f', full', by rw [List.getElem?_set_ne hpn]; exact z3, z4, z5, fun j hj hp => z6 j hj (hp.resolve_right fun h => e h.1)⟩
theorem apl_ok {hp : PH} {bk m : Nat} {len : Nat → Nat} (hm : m ≤ 1000) (hC : TabW hp bk m len (fun _ _ => False)) : PCall E [] 29 [.vec 1 bk m] hp (fun v _ => v = .s (.bool true)) := by
  refine p_call (fun _ _ => rfl) rfl ?_
  show PTri E false [] _ [.vec 1 bk m, .junk, .junk, .junk, .junk, .junk, .junk, .junk, .junk, .junk, .junk, .junk, .junk, .junk, .junk, .junk, .junk, .junk, .junk, .junk, .junk] hp _
  refine s_pure ?_
  refine s_ass (s_pure ?_)
  refine s_loopA (fun i hp => i ≤ m ∧ TabW hp bk m len (fun r _ => r < i)) (fun i => m - i) (fun i => [.vec 1 bk m, .s (.bool false), i64 (i : Nat), .junk, .junk, .junk, .junk, .junk, .junk, .junk, .junk, .junk, .junk, .junk, .junk, .junk, .junk, .junk, .junk, .junk, .junk]) 0 ⟨Nat.zero_le _, hC.imp fun r j _ _ h => absurd h (Nat.not_lt_zero _)⟩ (by repeat' (first | exact TSub.nil | apply TSub.same | apply TSub.junk)) ?_
  rintro i hp ⟨him, hI⟩
  refine s_ass (s_pure ?_)
  refine s_cond (fun h1 => ?_) (fun h1 => ?_)
  · simp only [decide_eq_true_eq] at h1
    have him' : i < m := by omega
    refine s_skip (s_block ?_)
    refine s_pure ?_
    have hli := (tabw_cell hI him').1
    refine e_loopA (fun k hp => k ≤ len i ∧ TabW hp bk m len (fun r j => r < i ∨ r = i ∧ j < k)) (fun k => len i - k) (fun k => [.vec 1 bk m, .s (.bool false), i64 (i : Nat), i64 (k : Nat), .junk, .junk, .junk, .junk, .junk, .junk, .junk, .junk, .junk, .junk, .junk, .junk, .junk, .junk, .junk, .junk, .junk]) 0 ⟨Nat.zero_le _, hI.imp fun r j _ _ h => by omega⟩ (by repeat' (first | exact TSub.nil | apply TSub.same | apply TSub.junk)) ?_
    rintro k hp ⟨hk, hI⟩
    obtain ⟨_, cs, b, mx, f, full, hbk, hcv, hb, hmx, hf1, hmark⟩ := tabw_cell hI him'
    refine s_ass (s_reg ?_)
    refine prg_v (v := .eptr 1 bk i 0) (q := i < m) rfl ?_ him' rfl
    refine prg_cast eptr_ptr ?_
    refine prg_v (v := .vec 1 b (len i)) (q := True) (by simp only [pval, psev, List.getElem?_cons_zero, pload, hbk, pcells, hcv]; rfl) ?_ trivial rfl
    refine g_pure 2 fun O1 => ?_
    refine g_fin ?_
    refine s_cond (fun h2 => ?_) (fun h2 => ?_)
    · simp only [decide_eq_true_eq] at h2
      have hkl : k < len i := by omega
      refine s_skip (s_block (e_reg ?_))
      refine prg_v (v := .eptr 1 bk i 0) (q := i < m) rfl ?_ him' rfl
      refine prg_cast eptr_ptr ?_
      refine prg_v (v := .vec 1 b (len i)) (q := True) (by simp only [pval, psev, List.getElem?_cons_zero, pload, hbk, pcells, hcv]; rfl) ?_ trivial rfl
      refine g_pure 3 fun O2 => ?_
      refine prg_head (v' := .s (mkU i k)) (by unfold mkU; congr 2; simp only [aw]; omega) ?_
      refine prg_v (v := .eptr 1 b k 0) (q := k < len i) rfl ?_ hkl rfl
      refine prg_e (v := .junk) (q := 1 = 1 ∧ k < mx) (hp' := hp.set b (.vec 1 mx (fun j => if j = k then [.s (mkU i k)] else f j) full)) (by
        simp only [peff, pstore, psev, List.getElem?_cons_zero, List.getElem?_cons_succ, hb]
        simp [pcs, okc, nlb, oneCell, mkU, show Nat.ble 1 1 = true from rfl, show Nat.beq 1 1 = true from rfl]
        refine congrArg _ (congrArg (fun g => PB.vec 1 mx g full) ?_)
        funext j
        split
        · next e => rw [e]; exact psplice1' (hf1 k hkl)
        · rfl) ?_ ⟨rfl, by omega⟩
      refine g_fin ?_
      refine e_pure ?_
      refine ⟨k + 1, ⟨by omega, (hmark k hkl).imp fun r j hr hj h => ?_⟩, by dsimp only; omega, by repeat' (first | exact TSub.nil | apply TSub.same | apply TSub.junk)⟩
      rcases h with h | ⟨h, h'⟩
      · exact .inl (.inl h)
      · by_cases e : j = k
        · exact .inr ⟨h, e⟩
        · exact .inl (.inr ⟨h, by omega⟩)
    · simp only [decide_eq_false_iff_not] at h2
      have hkl : k = len i := by omega
      subst hkl
      refine s_exit ?_
      refine e_pure ?_
      refine ⟨i + 1, ⟨by omega, hI.imp fun r j _ hj h => ?_⟩, by dsimp only; omega, by repeat' (first | exact TSub.nil | apply TSub.same | apply TSub.junk)⟩
      by_cases e : r = i
      · subst e; exact .inr ⟨rfl, hj⟩
      · exact .inl (by omega)
  simp only [decide_eq_false_iff_not] at h1
  have him' : i = m := by omega
  subst him'
  have hlens : ∀ r, r < i → len r ≤ 17592186044000 := fun r hr => (tabw_cell hI hr).1
  refine s_exit ?_
  refine s_pure ?_
  refine s_ass (s_pure ?_)
  refine p_tsub (T' := [.vec 1 bk i, .s (.bool false), .junk, .junk, .s (.slice none 0 0), .s (.int .i64 0), .junk, .junk, .junk, .junk, .junk, .junk, .junk, .junk, .junk, .junk, .junk, .junk, .junk, .junk, .junk]) (by repeat' (first | exact TSub.nil | apply TSub.same | apply TSub.junk)) ?_
  refine p_ap2 hm hI ?_
  refine s_ass (s_run ?_)
  refine s_loop (ι := Nat) (fun r => r ≤ i) (fun r => i - r) (fun r => [apA i len, .s (.bool false), .junk, .junk, apF i len, .junk, .junk, .junk, i64 (r : Nat), .junk, .junk, .junk, .junk, .junk, .junk, .junk, .junk, .junk, .junk, .junk, .junk]) (fun _ => []) 0 (Nat.zero_le _) (σ := []) (fz := []) (wk _ [] _ _) ?_
  intro r hr
  refine s_ass (s_run ?_)
  refine s_cond (fun h1 => ?_) (fun h1 => ?_)
  · simp only [decide_eq_true_eq] at h1
    have hir : r < i := by omega
    have hli := hlens r hir
    refine s_skip (s_block ?_)
    refine s_run ?_
    refine s_ass (s_run ?_)
    refine s_loop (ι := Nat) (fun k => k ≤ len r) (fun k => len r - k) (fun k => [apA i len, .s (.bool false), .junk, .junk, apF i len, .junk, .junk, .junk, i64 (r : Nat), i64 (len r : Nat), i64 (k : Nat), .junk, .junk, .junk, .junk, .junk, .junk, .junk, .junk, .junk, .junk]) (fun _ => []) 0 (Nat.zero_le _) (σ := []) (fz := []) (wk _ [] _ _) ?_
    intro k hk
    refine s_ass (s_run ?_)
    refine s_cond (fun h2 => ?_) (fun h2 => ?_)
    · simp only [decide_eq_true_eq] at h2
      refine s_skip (s_block ?_)
      refine s_reg (g_run 4 ?_)
      refine prg_head (v' := u64 (1000 * (r : Nat) + (k : Nat))) rfl ?_
      refine g_run 4 ?_
      refine prg_head (v' := .s (.bool false)) (congrArg (fun b => PV.s (.bool b)) (by first | exact bne_self_eq_false _ | (rw [bne_eq_false_iff_eq]; (try simp only [aw]); omega))) ?_
      refine g_run 7 ?_
      refine prg_head (v' := u64 (1000 * (r : Nat) + (k : Nat))) (by show PV.s (mk2 len r k) = _; unfold mk2; rw [if_pos (by omega)]; rfl) ?_
      refine g_run 6 ?_
      refine prg_head (v' := .s (.bool false)) (congrArg (fun b => PV.s (.bool b)) (by first | exact bne_self_eq_false _ | (rw [bne_eq_false_iff_eq]; (try simp only [aw]); omega))) ?_
      refine g_end ?_
      refine e_f ?_
      refine p_skip ?_
      refine e_run ?_
      refine lp_next (k + 1) (by omega) (σ := []) (fz := []) (wk _ [] _ _)
    · simp only [decide_eq_false_iff_not] at h2
      refine s_exit ?_
      refine s_run ?_
      refine e_loop (ι := Nat) (fun k => k ≤ 30) (fun k => 30 - k) (fun k => [apA i len, .s (.bool false), .junk, .junk, apF i len, .junk, .junk, .junk, i64 (r : Nat), i64 (len r : Nat), .junk, i64 (k : Nat), .junk, .junk, .junk, .junk, .junk, .junk, .junk, .junk, .junk]) (fun _ => []) 0 (Nat.zero_le _) (σ := []) (fz := []) (wk _ [] _ _) ?_
      intro k hk
      refine s_ass (s_run ?_)
      refine s_cond (fun h3 => ?_) (fun h3 => ?_)
      · simp only [decide_eq_true_eq] at h3
        refine s_skip (s_block ?_)
        refine s_reg (g_run 3 ?_)
        refine prg_head (v' := i64 (len r + k : Nat)) rfl ?_
        refine g_run 2 ?_
        refine prg_head (v' := u64 (500000 + 1000 * (r : Nat) + (k : Nat))) (by show PV.s (mk2 len r (len r + k)) = _; unfold mk2; rw [if_neg (by omega), show len r + k - len r = k by omega]; rfl) ?_
        refine g_run 5 ?_
        refine prg_head (v' := .s (.bool false)) (congrArg (fun b => PV.s (.bool b)) (by first | exact bne_self_eq_false _ | (rw [bne_eq_false_iff_eq]; (try simp only [aw]); omega))) ?_
        refine g_end ?_
        refine e_f ?_
        refine p_skip ?_
        refine e_run ?_
        refine lp_next (k + 1) (by omega) (σ := []) (fz := []) (wk _ [] _ _)
      · simp only [decide_eq_false_iff_not] at h3
        refine s_exit ?_
        refine e_run ?_
        refine lp_next (r + 1) (by omega) (σ := []) (fz := []) (wk _ [] _ _)
  simp only [decide_eq_false_iff_not] at h1
  refine s_exit ?_
  refine s_run ?_
  exact p_ret (fin rfl)
end Go.Proofs.Ytollibkfagjnaaa.Shape.Kit
