/- What is told is apart: the lists of a table, each with no more room, are written over and gone on with. -/
import Derived.Test.YtollibkfagjnaaaTabA
import Derived.Test.YtollibkfagjnaaaShapeKitA
set_option linter.unusedVariables false
set_option linter.unusedSimpArgs false
set_option maxRecDepth 10000
namespace Go.Proofs.Ytollibkfagjnaaa.Shape.Kit
open Go.Proofs.Ytollibkfagjnaaa.AM
def apM (i : Nat) : Nat → List PV := fun j => [.s (.int .i64 (1000 * (i : Int) + (j : Int)))]
def apR (n : Nat) (i : Nat) : Nat → List PV := fun q => [.s (.int .i64 (if q < n then 1000 * (i : Int) + (q : Int) else 500000 + 1000 * (i : Int) + ((q - n : Nat) : Int)))]
def apW (len : Nat → Nat) (i : Nat) : PV := .frz 1 (len i + 30) (len i + 30) (apR (len i) i)
def apA (m : Nat) (len : Nat → Nat) : PV := .frz 1 m m (fun i => [.fzx 1 (len i) (apM i)])
def apF (m : Nat) (len : Nat → Nat) : PV := .frz 1 m m (fun i => [apW len i])
def apV (n i b : Nat) : Nat → PV
  | 0 => .fzx 1 n (apM i)
  | k + 1 => .vec 1 b (n + (k + 1))
def apB (n i : Nat) : Nat → PB
  | 0 => .dead
  | k + 1 => .vec 1 (n + (k + 1)) (apR n i) true
theorem psplice1 {l : List PV} {v : PV} (h : l.length = 1) : psplice l 0 [v] = [v] := by
  match l, h with
  | [a], _ => rfl
def TabI (hp : PH) (bk m hi : Nat) (len : Nat → Nat) (P : Nat → Nat → Prop) : Prop := ∃ cs, hp[bk]? = some (.cel cs) ∧ cs.length = m ∧ Cells hp hi cs len P
theorem TabI.imp {hp : PH} {bk m hi : Nat} {len : Nat → Nat} {P P' : Nat → Nat → Prop} (h : TabI hp bk m hi len P) (hP : ∀ r j, r < m → j < len r → P' r j → P r j) : TabI hp bk m hi len P' := by
  obtain ⟨cs, h1, h2, ptr, h3, h4⟩ := h
  refine ⟨cs, h1, h2, ptr, fun r hr => ?_, h4⟩
  obtain ⟨q1, q2⟩ := h3 r hr
  refine ⟨q1, ?_⟩
  rcases q2 with q2 | ⟨q2, q3, f, full, q4, q6, q5⟩
  · exact .inl q2
  · exact .inr ⟨q2, q3, f, full, q4, q6, fun j hj hp => q5 j hj (hP r j (h2 ▸ hr) hj hp)⟩
theorem TabI.cell {hp : PH} {bk m hi i : Nat} {len : Nat → Nat} {P : Nat → Nat → Prop} (h : TabI hp bk m hi len P) (hi' : i < m) : len i ≤ 1000000 ∧ ∃ cs v, hp[bk]? = some (.cel cs) ∧ cs[i]? = some v ∧ plen (some v) = pv1 (.s (.int .i64 ((len i : Nat) : Int))) ∧ (0 < len i → ∃ b f full, v = .exv 1 b (len i) ∧ hp[b]? = some (.vec 1 (len i) f full) ∧ ∀ j, j < len i → (f j).length = 1) := by
  obtain ⟨cs, h1, h2, ptr, h3, h4⟩ := h
  obtain ⟨q1, q2⟩ := h3 i (h2 ▸ hi')
  rcases q2 with ⟨q2, q3⟩ | ⟨q2, q3, f, full, q4, q6, q5⟩
  · exact ⟨q1, cs, _, h1, q3, by rw [q2]; rfl, fun h => by omega⟩
  · exact ⟨q1, cs, _, h1, q2, rfl, fun _ => ⟨_, f, full, rfl, q4, q6⟩⟩
/-- All of it frozen, as it is marked. -/
theorem TabI.frz {hp : PH} {bk m hi : Nat} {len : Nat → Nat} (h : TabI hp bk m hi len (fun r _ => r < m)) : ∃ fz : List Nat, ∀ σ, VSub1 σ fz hp (.vec 1 bk m) (apA m len) := by
  obtain ⟨cs, h1, h2, ptr, h3, h4⟩ := h
  refine ⟨bk :: (List.range m).map ptr, fun σ => ?_⟩
  refine .vecc List.mem_cons_self h1 (by omega) rfl (fun i hi => rfl) fun i hi => ?_
  obtain ⟨q1, q2⟩ := h3 i (by omega)
  rcases q2 with ⟨q2, q3⟩ | ⟨q2, q3, f, full, q4, q6, q5⟩
  · rw [List.getD_eq_getElem?_getD, q3, q2]
    exact .fzxc fun i hi => absurd hi (Nat.not_lt_zero _)
  · rw [List.getD_eq_getElem?_getD, q2]
    exact .exvx (List.mem_cons_of_mem _ (List.mem_map.2 ⟨i, List.mem_range.2 hi, rfl⟩)) q4 (Nat.le_refl _) fun j hj => q5 j hj hi
theorem apart_ok {hp : PH} {bk m hi : Nat} {len : Nat → Nat} (hm2 : m ≤ 1000000) (hC : TabI hp bk m hi len (fun _ _ => False)) : PCall E [] 30 [.vec 1 bk m] hp (fun v _ => v = .s (.bool true)) := by
  refine p_call (fun _ _ => rfl) rfl ?_
  show PTri E false [] _ [.vec 1 bk m, .junk, .junk, .junk, .junk, .junk, .junk, .junk, .junk, .junk, .junk, .junk, .junk, .junk, .junk, .junk, .junk, .junk, .junk, .junk, .junk] hp _
  refine s_pure ?_
  refine s_ass (s_pure ?_)
  refine s_loopA (fun i hp => i ≤ m ∧ TabI hp bk m hi len (fun r _ => r < i)) (fun i => m - i) (fun i => [.vec 1 bk m, .s (.bool false), i64 (i : Nat), .junk, .junk, .junk, .junk, .junk, .junk, .junk, .junk, .junk, .junk, .junk, .junk, .junk, .junk, .junk, .junk, .junk, .junk]) 0 ⟨Nat.zero_le _, hC.imp fun r j _ _ h => absurd h (Nat.not_lt_zero _)⟩ (by repeat' (first | exact TSub.nil | apply TSub.same | apply TSub.junk)) ?_
  · rintro i hp ⟨him, hI⟩
    refine s_ass (s_pure ?_)
    refine s_cond (fun h1 => ?_) (fun h1 => ?_)
    · simp only [decide_eq_true_eq] at h1
      have him' : i < m := by omega
      refine s_skip (s_block ?_)
      refine s_pure ?_
      have hli := (hI.cell him').1
      refine e_loopA (fun k hp => k ≤ len i ∧ TabI hp bk m hi len (fun r j => r < i ∨ r = i ∧ j < k)) (fun k => len i - k) (fun k => [.vec 1 bk m, .s (.bool false), i64 (i : Nat), i64 (k : Nat), .junk, .junk, .junk, .junk, .junk, .junk, .junk, .junk, .junk, .junk, .junk, .junk, .junk, .junk, .junk, .junk, .junk]) 0 ⟨Nat.zero_le _, hI.imp fun r j _ _ h => by omega⟩ (by repeat' (first | exact TSub.nil | apply TSub.same | apply TSub.junk)) ?_
      rintro k hp ⟨hk, hI⟩
      obtain ⟨_, cs, v, hbk, hcv, hpl, hex⟩ := hI.cell him'
      refine s_ass (s_reg ?_)
      refine prg_v (v := .eptr 1 bk i 0) (q := i < m) rfl ?_ him' rfl
      refine prg_cast eptr_ptr ?_
      refine prg_v (v := v) (q := True) (by simp only [pval, psev, List.getElem?_cons_zero, pload, hbk, pcells, hcv]; rfl) ?_ trivial rfl
      refine prg_v (v := i64 (len i : Nat)) (q := True) (by simp only [pval, psev, List.getElem?_cons_zero]; exact hpl) ?_ trivial rfl
      refine g_pure 1 fun O1 => ?_
      refine g_fin ?_
      refine s_cond (fun h2 => ?_) (fun h2 => ?_)
      · simp only [decide_eq_true_eq] at h2
        have hkl : k < len i := by omega
        obtain ⟨b, f, full, rfl, hb, hb1⟩ := hex (by omega)
        refine s_skip (s_block (e_reg ?_))
        refine prg_v (v := .eptr 1 bk i 0) (q := i < m) rfl ?_ him' rfl
        refine prg_cast eptr_ptr ?_
        refine prg_v (v := .exv 1 b (len i)) (q := True) (by simp only [pval, psev, List.getElem?_cons_zero, pload, hbk, pcells, hcv]; rfl) ?_ trivial rfl
        refine g_pure 2 fun O2 => ?_
        refine prg_v (v := .eptr 1 b k 0) (q := k < len i) rfl ?_ hkl rfl
        refine prg_e (v := .junk) (q := 1 = 1 ∧ k < len i) (hp' := hp.set b (.vec 1 (len i) (fun j => if j = k then [.s (.int .i64 (1000 * (i : Int) + (k : Int)))] else f j) full)) (by
          simp only [peff, pstore, psev, List.getElem?_cons_zero, List.getElem?_cons_succ, hb]
          simp [pcs, okc, nlb, oneCell, show Nat.ble 1 1 = true from rfl, show Nat.beq 1 1 = true from rfl]
          refine congrArg _ (congrArg (fun g => PB.vec 1 (len i) g full) ?_)
          funext j
          split
          · next e => rw [e]; exact psplice1 (hb1 k hkl)
          · rfl) ?_ ⟨rfl, hkl⟩
        refine g_fin ?_
        refine e_pure ?_
        refine ⟨k + 1, ⟨by omega, ?_⟩, by dsimp only; omega, by repeat' (first | exact TSub.nil | apply TSub.same | apply TSub.junk)⟩
        obtain ⟨cs', g1, g2, g3⟩ := hI
        rw [hbk] at g1; cases g1
        have hne : b ≠ bk := fun x => by rw [x, hbk] at hb; cases hb
        exact ⟨cs, by rw [List.getElem?_set_ne hne]; exact hbk, g2, g3.mark (by omega) hkl hcv hb⟩
      · simp only [decide_eq_false_iff_not] at h2
        have hkl : k = len i := by omega
        subst hkl
        refine s_exit ?_
        refine e_pure ?_
        refine ⟨i + 1, ⟨by omega, hI.imp fun r j _ hj h => ?_⟩, by dsimp only; omega, by repeat' (first | exact TSub.nil | apply TSub.same | apply TSub.junk)⟩
        by_cases e : r = i
        · subst e; exact .inr ⟨rfl, hj⟩
        · exact .inl (by omega)
    simp only [decide_eq_false_iff_not] at h1
    have him' : i = m := by omega
    subst him'
    have hlens : ∀ r, r < i → len r ≤ 1000000 := fun r hr => (hI.cell hr).1
    obtain ⟨fz, hfz⟩ := hI.frz
    refine s_exit ?_
    refine s_pure ?_
    refine p_weak [] fz (wk [] fz ([apA i len, .s (.bool false), .junk, .junk, .s (.slice none 0 0), .junk, .junk, .junk, .junk, .junk, .junk, .junk, .junk, .junk, .junk, .junk, .junk, .junk, .junk, .junk, .junk]) [] (vals := .cons (.one (hfz _)) (by repeat' (first | exact VSubs.nil | apply VSubs.cons | exact VSub.one (VSub1.junk _) | exact VSub.nlv rfl))) (blks := .nil)) ?_
    refine s_ass (s_run ?_)
    refine s_loop (ι := Nat) (fun r => r ≤ i) (fun r => i - r) (fun r => [apA i len, .s (.bool false), .junk, .junk, .vec 1 0 r, i64 (r : Nat), .junk, .junk, .junk, .junk, .junk, .junk, .junk, .junk, .junk, .junk, .junk, .junk, .junk, .junk, .junk]) (fun r => [.vec 1 r (fun j => [apW len j]) false]) 0 (Nat.zero_le _) (σ := [none]) (fz := []) (wk _ [] _ _ (vals := by (repeat' (first | exact VSubs.nil | apply VSubs.cons | exact VSub.one (VSub1.junk _) | exact VSub.one (VSub1.nil rfl) | exact VSub.nlv rfl))) (blks := .cons (.nil rfl) .nil)) ?_
    · intro r hr
      refine s_ass (s_run ?_)
      refine s_cond (fun h1 => ?_) (fun h1 => ?_)
      · simp only [decide_eq_true_eq] at h1
        have hri : r < i := by omega
        have hlr := hlens r hri
        obtain ⟨n, hn⟩ : ∃ n, len r = n := ⟨_, rfl⟩
        rw [hn] at hlr
        refine s_skip (s_block ?_)
        refine s_reg (g_run 2 ?_)
        refine prg_head (v' := .fzx 1 n (apM r)) (by rw [hn]) ?_
        refine g_end ?_
        refine s_ass (s_run ?_)
        refine s_loop (ι := Nat) (fun k => k ≤ 30) (fun k => 30 - k) (fun k => [apA i len, .s (.bool false), .junk, .junk, .vec 1 0 r, i64 (r : Nat), apV n r 1 k, i64 (k : Nat), .junk, .junk, .junk, .junk, .junk, .junk, .junk, .junk, .junk, .junk, .junk, .junk, .junk]) (fun k => [.vec 1 r (fun j => [apW len j]) false, apB n r k]) 0 (Nat.zero_le _) (σ := [some 0, none]) (fz := []) (wk _ [] _ _ (vals := (by (try dsimp only [apV, apB]); repeat' (first | exact VSubs.nil | apply VSubs.cons | exact VSub.one (VSub1.junk _) | exact VSub.nlv rfl | exact VSub.one (VSub1.vec rfl rfl)))) (blks := .cons bs_same (.cons .dead .nil))) ?_
        intro k hk
        rcases k with _ | k
        · refine s_ass (s_run ?_)
          refine s_cond (fun h2 => ?_) (fun h2 => ?_)
          · simp only [decide_eq_true_eq] at h2
            refine s_skip (s_block ?_)
            refine e_reg (g_run 3 ?_)
            refine prg_head (v' := i64 (500000 + 1000 * (r : Nat) + ((0 : Nat) : Int))) rfl ?_
            refine g_end (hq := by simp only [room, true_and, and_true]; omega) ?_
            refine e_run ?_
            refine lp_next (0 + 1) (by omega) (σ := [some 0, some 3]) (fz := []) (wk _ [] _ _ (vals := (by (try dsimp only [apV, apB]); repeat' (first | exact VSubs.nil | apply VSubs.cons | exact VSub.one (VSub1.junk _) | exact VSub.nlv rfl | exact VSub.one (VSub1.vec rfl rfl)))) (blks := .cons bs_same (.cons (bs_vec rfl (fun j hj => by
                by_cases w : j < n
                · rw [if_pos w]; unfold apM apR; rw [if_pos w]
                · have : j = n := by omega
                  subst this
                  rw [if_neg w, Nat.sub_self]
                  unfold apR i64
                  simp) (h := rfl) (hb := rfl)) .nil)))
          · simp only [decide_eq_false_iff_not] at h2
            exact absurd (by decide) h2
        · refine s_ass (s_run ?_)
          refine s_cond (fun h2 => ?_) (fun h2 => ?_)
          · simp only [decide_eq_true_eq] at h2
            refine s_skip (s_block ?_)
            refine e_reg (g_run 3 ?_)
            refine prg_head (v' := i64 (500000 + 1000 * (r : Nat) + (((k + 1 : Nat)) : Int))) rfl ?_
            refine g_end (hq := by simp only [room, true_and, and_true]; omega) ?_
            refine e_run ?_
            refine lp_next ((k + 1) + 1) (by omega) (σ := [some 0, some 3]) (fz := []) (wk _ [] _ _ (vals := (by (try dsimp only [apV, apB]); repeat' (first | exact VSubs.nil | apply VSubs.cons | exact VSub.one (VSub1.junk _) | exact VSub.nlv rfl | exact VSub.one (VSub1.vec rfl rfl)))) (blks := .cons bs_same (.cons (bs_vec rfl (fun j hj => by
                by_cases w : j < n + (k + 1)
                · rw [if_pos w]
                · have : j = n + (k + 1) := by omega
                  subst this
                  rw [if_neg w, Nat.sub_self]
                  unfold apR i64
                  rw [if_neg (by omega), show n + (k + 1) - n = k + 1 by omega]
                  rfl) (h := rfl) (hb := rfl)) .nil)))
          · simp only [decide_eq_false_iff_not] at h2
            have hk29 : k = 29 := by omega
            subst hk29
            refine s_exit ?_
            refine p_weak [some 0] [1] (wk _ [1] ([apA i len, .s (.bool false), .junk, .junk, .vec 1 0 r, i64 (r : Nat), apW len r, .junk, .junk, .junk, .junk, .junk, .junk, .junk, .junk, .junk, .junk, .junk, .junk, .junk, .junk]) [.vec 1 r (fun j => [apW len j]) false] (vals := by (repeat' (first | exact VSubs.nil | apply VSubs.cons | exact VSub.one (VSub1.junk _) | exact VSub.nlv rfl | exact VSub.one (VSub1.vec rfl rfl) | exact VSub.one (VSub1.vecf (.head _) rfl (by rw [hn]) (Nat.le_refl _) (Nat.le_of_eq (by rw [hn])) fun i hi => by rw [hn])))) (blks := .cons bs_same .nil)) ?_
            refine e_run (hq := by simp only [room, true_and, and_true]; omega) ?_
            refine e_run ?_
            refine lp_next (r + 1) (by omega) (σ := [some 2]) (fz := []) (wk _ [] _ _ (vals := (by repeat' (first | exact VSubs.nil | apply VSubs.cons | exact VSub.one (VSub1.junk _) | exact VSub.nlv rfl | exact VSub.one (VSub1.vec rfl rfl)))) (blks := .cons (bs_vec rfl (fun j hj => by
              by_cases w : j < r
              · rw [if_pos w]
              · have : j = r := by omega
                subst this
                rw [if_neg w, Nat.sub_self]; rfl) (h := rfl) (hb := rfl)) .nil))
      simp only [decide_eq_false_iff_not] at h1
      have hri : r = i := by omega
      subst hri
      refine s_exit ?_
      refine p_weak [] [0] (wk _ [0] ([apA r len, .s (.bool false), .junk, .junk, apF r len, .junk, .junk, .junk, .junk, .junk, .junk, .junk, .junk, .junk, .junk, .junk, .junk, .junk, .junk, .junk, .junk]) [] (vals := by (repeat' (first | exact VSubs.nil | apply VSubs.cons | exact VSub.one (VSub1.junk _) | exact VSub.nlv rfl | exact VSub.one (VSub1.vecf (.head _) rfl rfl (Nat.le_refl _) (Nat.le_refl _) fun i hi => rfl)))) (blks := .nil)) ?_
      refine s_ass (s_run ?_)
      refine s_loop (ι := Nat) (fun i => i ≤ r) (fun i => r - i) (fun i => [apA r len, .s (.bool false), .junk, .junk, apF r len, .junk, .junk, .junk, i64 (i : Nat), .junk, .junk, .junk, .junk, .junk, .junk, .junk, .junk, .junk, .junk, .junk, .junk]) (fun _ => []) 0 (Nat.zero_le _) (σ := []) (fz := []) (wk _ [] _ _) ?_
      intro i hi
      refine s_ass (s_run ?_)
      refine s_cond (fun h1 => ?_) (fun h1 => ?_)
      · simp only [decide_eq_true_eq] at h1
        have hir : i < r := by omega
        have hli := hlens i hir
        refine s_skip (s_block ?_)
        refine s_run ?_
        refine s_ass (s_run ?_)
        refine s_loop (ι := Nat) (fun k => k ≤ len i) (fun k => len i - k) (fun k => [apA r len, .s (.bool false), .junk, .junk, apF r len, .junk, .junk, .junk, i64 (i : Nat), i64 (len i : Nat), i64 (k : Nat), .junk, .junk, .junk, .junk, .junk, .junk, .junk, .junk, .junk, .junk]) (fun _ => []) 0 (Nat.zero_le _) (σ := []) (fz := []) (wk _ [] _ _) ?_
        intro k hk
        refine s_ass (s_run ?_)
        refine s_cond (fun h2 => ?_) (fun h2 => ?_)
        · simp only [decide_eq_true_eq] at h2
          refine s_skip (s_block ?_)
          refine s_reg (g_run 7 ?_)
          refine prg_head (v' := .s (.bool false)) (by congr 2; exact bne_self_eq_false _) ?_
          refine g_run 7 ?_
          refine prg_head (v' := i64 (1000 * (i : Nat) + (k : Nat))) (by unfold i64; rw [if_pos (by omega)]) ?_
          refine g_run 5 ?_
          refine prg_head (v' := .s (.bool false)) (by congr 2; exact bne_self_eq_false _) ?_
          refine g_end ?_
          refine e_f ?_
          refine p_skip ?_
          refine e_run ?_
          refine lp_next (k + 1) (by omega) (σ := []) (fz := []) (wk _ [] _ _)
        · simp only [decide_eq_false_iff_not] at h2
          refine s_exit ?_
          refine s_run ?_
          refine e_loop (ι := Nat) (fun k => k ≤ 30) (fun k => 30 - k) (fun k => [apA r len, .s (.bool false), .junk, .junk, apF r len, .junk, .junk, .junk, i64 (i : Nat), i64 (len i : Nat), .junk, i64 (k : Nat), .junk, .junk, .junk, .junk, .junk, .junk, .junk, .junk, .junk]) (fun _ => []) 0 (Nat.zero_le _) (σ := []) (fz := []) (wk _ [] _ _) ?_
          intro k hk
          refine s_ass (s_run ?_)
          refine s_cond (fun h3 => ?_) (fun h3 => ?_)
          · simp only [decide_eq_true_eq] at h3
            refine s_skip (s_block ?_)
            refine s_reg (g_run 3 ?_)
            refine prg_head (v' := i64 (len i + k : Nat)) rfl ?_
            refine g_run 2 ?_
            refine prg_head (v' := i64 (500000 + 1000 * (i : Nat) + (k : Nat))) (by unfold i64; rw [if_neg (by omega), show len i + k - len i = k by omega]) ?_
            refine g_run 4 ?_
            refine prg_head (v' := .s (.bool false)) (by congr 2; exact bne_self_eq_false _) ?_
            refine g_end ?_
            refine e_f ?_
            refine p_skip ?_
            refine e_run ?_
            refine lp_next (k + 1) (by omega) (σ := []) (fz := []) (wk _ [] _ _)
          · simp only [decide_eq_false_iff_not] at h3
            refine s_exit ?_
            refine e_run ?_
            refine lp_next (i + 1) (by omega) (σ := []) (fz := []) (wk _ [] _ _)
      simp only [decide_eq_false_iff_not] at h1
      refine s_exit ?_
      refine s_run ?_
      exact p_ret (fin rfl)
/-- A call that does away with what it is given. -/
theorem call_dead {hp : PH} {g : FuncId} {args : List PV} {P : PV → Prop} {n : Nat} (hc : PCall E [] g args hp (fun v _ => P v)) (hP : ∀ v, P v → nlv v = true) (hn : ∀ b, b < n → hp[b]? ≠ none) : PCall E (List.range n) g args hp (fun v hp' => P v ∧ hp' = hp.map fun _ => PB.dead) := by
  intro F ρ H avs hr ha
  refine (hc F ρ H avs hr ha).mono fun r hg => ?_
  obtain ⟨F', ρ', hp', v, a1, a2, a3, a4, a5⟩ := hg
  have hdead : ∀ b B, (hp.map (fun _ => PB.dead))[b]? = some B → B = PB.dead := fun b B h => by
    rw [List.getElem?_map] at h
    cases hq : hp[b]? with
    | none => rw [hq] at h; cases h
    | some C => rw [hq] at h; cases h; rfl
  refine ⟨F', ρ, hp.map (fun _ => PB.dead), v, ⟨a1.size, a1.fmono, a1.fget, a1.fnew, a1.keep, fun a h => .inl h, fun d h => .inl h⟩, fun _ _ _ h => h, ⟨a3.fsz, fun b B h => ?_, fun b b' B B' a e e' g1 g2 d1 d2 q1 q2 => absurd (hdead _ _ g1) d1, fun b hb => hr.dom b (by simpa using hb), fun b a e h => Nat.lt_of_lt_of_le (hr.own b a e h) a1.size, (fun d h => nomatch h), List.nodup_nil⟩, nlv_ok a4 (hP v a5), a5, rfl⟩
  rw [hdead b B h]; trivial
end Go.Proofs.Ytollibkfagjnaaa.Shape.Kit
