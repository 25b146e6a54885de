import Derived.Test.YtggaimcopbjdiaaTabA
import Derived.Test.YtggaimcopbjdiaaGraphP
set_option linter.unusedVariables false
set_option linter.unusedSimpArgs false
set_option maxRecDepth 10000
namespace Go.Proofs.Ytggaimcopbjdiaa.Graph
open Go.Proofs.Ytggaimcopbjdiaa.AM
def apM (i : Nat) : Nat → List PV := fun j => [.s (.int .i64 (1000 * (i : Int) + (j : Int)))]
def apA (m : Nat) (len : Nat → Nat) : PV := .frz 1 m m (fun i => [.fzx 1 (len i) (apM i)])
def TabI (hp : PH) (bk m hi : Nat) (len : Nat → Nat) (P : Nat → Nat → Prop) : Prop := ∃ cs, hp[bk]? = some (.cel cs) ∧ cs.length = m ∧ Cells hp hi cs len P
theorem TabI.imp {hp : PH} {bk m hi : Nat} {len : Nat → Nat} {P P' : Nat → Nat → Prop} (h : TabI hp bk m hi len P) (hP : ∀ r j, r < m → j < len r → P' r j → P r j) : TabI hp bk m hi len P' := by
 obtain ⟨cs, h1, h2, ptr, h3, h4⟩ := h
 refine ⟨cs, h1, h2, ptr, fun r hr => ?_, h4⟩
 obtain ⟨q1, q2⟩ := h3 r hr
 refine ⟨q1, ?_⟩
 rcases q2 with q2 | ⟨q2, q3, f, full, q4, q6, q5⟩
 ·exact .inl q2
 ·exact .inr ⟨q2, q3, f, full, q4, q6, fun j hj hp => q5 j hj (hP r j (h2 ▸ hr) hj hp)⟩
theorem TabI.cell {hp : PH} {bk m hi i : Nat} {len : Nat → Nat} {P : Nat → Nat → Prop} (h : TabI hp bk m hi len P) (hi' : i < m) : len i ≤ 1000000 ∧ ∃ cs v, hp[bk]? = some (.cel cs) ∧ cs[i]? = some v ∧ plen (some v) = pv1 (.s (.int .i64 ((len i : Nat) : Int))) ∧ (0 < len i → ∃ b f full, v = .exv 1 b (len i) ∧ hp[b]? = some (.vec 1 (len i) f full) ∧ ∀ j, j < len i → (f j).length = 1) := by
 obtain ⟨cs, h1, h2, ptr, h3, h4⟩ := h
 obtain ⟨q1, q2⟩ := h3 i (h2 ▸ hi')
 rcases q2 with ⟨q2, q3⟩ | ⟨q2, q3, f, full, q4, q6, q5⟩
 ·exact ⟨q1, cs, _, h1, q3, by rw [q2]; rfl, fun h => by omega⟩
 ·exact ⟨q1, cs, _, h1, q2, rfl, fun _ => ⟨_, f, full, rfl, q4, q6⟩⟩
theorem TabI.frz {hp : PH} {bk m hi : Nat} {len : Nat → Nat} (h : TabI hp bk m hi len (fun r _ => r < m)) : ∃ fz : List Nat, ∀ σ, VSub1 σ fz hp (.vec 1 bk m) (apA m len) := by
 obtain ⟨cs, h1, h2, ptr, h3, h4⟩ := h
 refine ⟨bk :: (List.range m).map ptr, fun σ => ?_⟩
 refine .vecc List.mem_cons_self h1 (by omega) rfl (fun i hi => rfl) fun i hi => ?_
 obtain ⟨q1, q2⟩ := h3 i (by omega)
 rcases q2 with ⟨q2, q3⟩ | ⟨q2, q3, f, full, q4, q6, q5⟩
 ·rw [List.getD_eq_getElem?_getD, q3, q2]
  exact .fzxc fun i hi => absurd hi (Nat.not_lt_zero _)
 ·rw [List.getD_eq_getElem?_getD, q2]
  exact .exvx (List.mem_cons_of_mem _ (List.mem_map.2 ⟨i, List.mem_range.2 hi, rfl⟩)) q4 (Nat.le_refl _) fun j hj => q5 j hj hi
end Go.Proofs.Ytggaimcopbjdiaa.Graph
