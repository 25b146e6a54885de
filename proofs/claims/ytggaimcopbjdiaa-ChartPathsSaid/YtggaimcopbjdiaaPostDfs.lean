import Derived.Test.YtggaimcopbjdiaaPostPlain
set_option linter.unusedVariables false
namespace Go.Proofs.Ytggaimcopbjdiaa.Post
section
variable (n x : Nat) (rows : Nat → List Nat)
inductive Wb : Nat → Prop
 | root : Wb x
 | step {a b : Nat} (h : Wb b) (hm : a ∈ rows b) : Wb a
structure Dfs (seen : List Bool) (out : List Nat) (st : List (Nat × Nat)) : Prop where
 len : seen.length = n
 iff : ∀ a, a < n → (seen.getD a false = true ↔ a ∈ out ∨ a ∈ st.map (·.1))
 nd : (out ++ st.map (·.1)).Nodup
 lt : ∀ a, a ∈ out ++ st.map (·.1) → a < n
 par : ∀ s1 a k s2, st = s1 ++ (a, k) :: s2 → (a = x ∧ s1 = []) ∨ ∃ b, a ∈ rows b ∧ b ∈ s1.map (·.1)
 opar : ∀ o1 a o2, out = o1 ++ a :: o2 → a = x ∨ ∃ b, a ∈ rows b ∧ (b ∈ o2 ∨ b ∈ st.map (·.1))
 cl : ∀ a, a ∈ out → ∀ c, c ∈ rows a → seen.getD c false = true
 scl : ∀ a k, (a, k) ∈ st → k ≤ (rows a).length ∧ ∀ i, i < k → seen.getD ((rows a).getD i 0) false = true
 way : ∀ a, a ∈ out ++ st.map (·.1) → Wb x rows a
 last : st = [] → ∃ o, out = o ++ [x]
structure OrdL (l : List Nat) : Prop where
 hd : ∃ t, l = x :: t
 nd : l.Nodup
 mem : ∀ a, a ∈ l ↔ Wb x rows a
 lt : ∀ a, a ∈ l → a < n
 par : ∀ l1 a l2, l = l1 ++ a :: l2 → a ≠ x → ∃ b, a ∈ rows b ∧ b ∈ l1
def left (B : Nat) (seen : List Bool) (st : List (Nat × Nat)) : Nat := seen.count false * (B + 2) + (st.map fun e => (rows e.1).length - e.2 + 1).sum
variable {n x rows}
theorem snoc_cases {α : Type} (l : List α) : l = [] ∨ ∃ t y, l = t ++ [y] := by
 cases l with
 | nil => exact .inl rfl
 | cons a l => exact .inr ⟨(a :: l).dropLast, (a :: l).getLast (by simp), (List.dropLast_concat_getLast (by simp)).symm⟩
theorem getD_set' {seen : List Bool} {c b : Nat} (hc : c < seen.length) : (seen.set c true).getD b false = if b = c then true else seen.getD b false := by
 simp only [List.getD_eq_getElem?_getD]
 by_cases h : b = c
 ·subst h
  rw [List.getElem?_set_self hc, if_pos rfl]; rfl
 ·rw [List.getElem?_set_ne (Ne.symm h), if_neg h]
theorem count_set' : ∀ {seen : List Bool} {c : Nat}, c < seen.length → seen.getD c false = false → (seen.set c true).count false + 1 = seen.count false
 | [], c, h, _ => by simp at h
 | b :: l, 0, _, h => by
   have : b = false := by simpa using h
   subst this
   simp
 | b :: l, c + 1, h, h' => by
   have := count_set' (seen := l) (c := c) (by simpa using h) (by simpa using h')
   rw [List.set_cons_succ, List.count_cons, List.count_cons]
   omega
theorem dfs_init (hx : x < n) : Dfs n x rows ((List.replicate n false).set x true) [] [(x, 0)] := by
 refine ⟨by simp, fun a ha => ?_, by simp, fun a ha => ?_, fun s1 a k s2 h => ?_, fun o1 a o2 h => by simp at h, fun a h => by simp at h, fun a k h => ?_, fun a h => ?_, fun h => by simp at h⟩
 ·rw [getD_set' (by simpa using hx)]
  by_cases e : a = x
  ·simp [e]
  ·rw [if_neg e]
   simp [e, List.getD_eq_getElem?_getD, ha]
 ·have : a = x := by simpa using ha
  omega
 ·cases s1 with
  | nil =>
    simp only [List.nil_append, List.cons.injEq, Prod.mk.injEq] at h
    exact .inl ⟨h.1.1.symm, rfl⟩
  | cons y s1 => simp at h
 ·have : a = x ∧ k = 0 := by simpa using h
  rw [this.2]
  exact ⟨Nat.zero_le _, fun i hi => by omega⟩
 ·have : a = x := by simpa using h
  rw [this]; exact .root
theorem dfs_pop {seen : List Bool} {out : List Nat} {s : List (Nat × Nat)} {a k : Nat} (h : Dfs n x rows seen out (s ++ [(a, k)])) (hk : k = (rows a).length) : Dfs n x rows seen (out ++ [a]) s := by
 have hmem : ∀ b, b ∈ (out ++ [a]) ++ s.map (·.1) ↔ b ∈ out ++ (s ++ [(a, k)]).map (·.1) := fun b => by
  simp only [List.mem_append, List.map_append, List.mem_singleton, List.map_cons, List.map_nil]
  constructor
  ·rintro ((h | h) | h)
   ·exact .inl h
   ·exact .inr (.inr h)
   ·exact .inr (.inl h)
  ·rintro (h | h | h)
   ·exact .inl (.inl h)
   ·exact .inr h
   ·exact .inl (.inr h)
 refine ⟨h.len, fun b hb => ?_, ?_, fun b hb => h.lt b ((hmem b).1 hb), fun s1 b k' s2 e => h.par s1 b k' (s2 ++ [(a, k)]) (by rw [e]; simp), fun o1 b o2 e => ?_, fun b hb c hc => ?_, fun b k' hb => h.scl b k' (List.mem_append_left _ hb), fun b hb => h.way b ((hmem b).1 hb), fun e => ?_⟩
 ·rw [h.iff b hb]
  have := hmem b
  simp only [List.mem_append] at this
  constructor
  ·intro q; exact (List.mem_append.1 ((hmem b).2 (List.mem_append.2 q)))
  ·intro q; exact (List.mem_append.1 ((hmem b).1 (List.mem_append.2 q)))
 ·have hn := h.nd
  rw [List.map_append, List.map_cons, List.map_nil] at hn
  have hp : ((out ++ [a]) ++ s.map (·.1)).Perm (out ++ (s.map (·.1) ++ [a])) := by
   rw [List.append_assoc]
   exact List.Perm.append_left _ List.perm_append_comm
  exact hp.symm.nodup hn
 ·rcases snoc_cases o2 with rfl | ⟨o3, y, rfl⟩
  ·have e' := List.append_inj' e rfl
   have : b = a := by simpa using e'.2.symm
   subst this
   rcases h.par s b k [] rfl with ⟨q, _⟩ | ⟨b', q1, q2⟩
   ·exact .inl q
   ·exact .inr ⟨b', q1, .inr q2⟩
  ·rw [← List.cons_append, ← List.append_assoc] at e
   obtain ⟨e1, e2⟩ := List.append_inj' e rfl
   have hy : a = y := by simpa using e2
   subst hy
   rcases h.opar o1 b o3 e1 with q | ⟨b', q1, q2⟩
   ·exact .inl q
   ·refine .inr ⟨b', q1, ?_⟩
    rcases q2 with q2 | q2
    ·exact .inl (List.mem_append_left _ q2)
    ·rw [List.map_append, List.mem_append] at q2
     rcases q2 with q2 | q2
     ·exact .inr q2
     ·have : b' = a := by simpa using q2
      subst this
      exact .inl (by simp)
 ·rcases List.mem_append.1 hb with hb | hb
  ·exact h.cl b hb c hc
  ·have : b = a := by simpa using hb
   subst this
   obtain ⟨i, hi, rfl⟩ := List.getElem_of_mem hc
   have := (h.scl b k (by simp)).2 i (by omega)
   rwa [show (rows b).getD i 0 = (rows b)[i] by rw [List.getD_eq_getElem?_getD, List.getElem?_eq_getElem hi]; rfl] at this
 ·subst e
  rcases h.par [] a k [] rfl with ⟨q, _⟩ | ⟨b', _, q2⟩
  ·exact ⟨out, by rw [q]⟩
  ·simp at q2
theorem left_pop {B : Nat} {seen : List Bool} {s : List (Nat × Nat)} {a k : Nat} : left rows B seen s < left rows B seen (s ++ [(a, k)]) := by
 unfold left
 simp only [List.map_append, List.sum_append, List.map_cons, List.map_nil, List.sum_cons, List.sum_nil]
 omega
theorem dfs_next {seen : List Bool} {out : List Nat} {s : List (Nat × Nat)} {a k : Nat} (h : Dfs n x rows seen out (s ++ [(a, k)])) (hk : k < (rows a).length) (hs : seen.getD ((rows a).getD k 0) false = true) : Dfs n x rows seen out (s ++ [(a, k + 1)]) := by
 have hm : (s ++ [(a, k + 1)]).map (·.1) = (s ++ [(a, k)]).map (·.1) := by simp
 refine ⟨h.len, fun b hb => by rw [hm]; exact h.iff b hb, by rw [hm]; exact h.nd, fun b hb => h.lt b (by rw [← hm]; exact hb), fun s1 b k' s2 e => ?_, fun o1 b o2 e => by rw [hm]; exact h.opar o1 b o2 e, h.cl, fun b k' hb => ?_, fun b hb => h.way b (by rw [← hm]; exact hb), fun e => by simp at e⟩
 ·rcases snoc_cases s2 with rfl | ⟨s3, y, rfl⟩
  ·have e' := List.append_inj' e rfl
   have : b = a := by have := e'.2; simp at this; exact this.1.symm
   subst this
   obtain ⟨e1, _⟩ := e'
   subst e1
   exact h.par s b k [] rfl
  ·rw [← List.cons_append, ← List.append_assoc] at e
   obtain ⟨e1, e2⟩ := List.append_inj' e rfl
   exact h.par s1 b k' (s3 ++ [(a, k)]) (by rw [e1]; simp)
 ·rcases List.mem_append.1 hb with hb | hb
  ·exact h.scl b k' (List.mem_append_left _ hb)
  ·have : b = a ∧ k' = k + 1 := by simpa using hb
   obtain ⟨rfl, rfl⟩ := this
   refine ⟨hk, fun i hi => ?_⟩
   by_cases e : i = k
   ·subst e; exact hs
   ·exact (h.scl b k (by simp)).2 i (by omega)
theorem left_next {B : Nat} {seen : List Bool} {s : List (Nat × Nat)} {a k : Nat} (hk : k < (rows a).length) : left rows B seen (s ++ [(a, k + 1)]) < left rows B seen (s ++ [(a, k)]) := by
 unfold left
 simp only [List.map_append, List.sum_append, List.map_cons, List.map_nil, List.sum_cons, List.sum_nil]
 omega
theorem dfs_push {seen : List Bool} {out : List Nat} {s : List (Nat × Nat)} {a k c : Nat} (h : Dfs n x rows seen out (s ++ [(a, k)])) (hk : k < (rows a).length) (hc : (rows a).getD k 0 = c) (hcn : c < n) (hs : seen.getD c false = false) : Dfs n x rows (seen.set c true) out (s ++ [(a, k + 1), (c, 0)]) := by
 have hcl : c < seen.length := by rw [h.len]; exact hcn
 have hnew : c ∉ out ++ (s ++ [(a, k)]).map (·.1) := fun q => by
  have := (h.iff c hcn).2 (List.mem_append.1 q)
  rw [hs] at this; cases this
 have hm : (s ++ [(a, k + 1), (c, 0)]).map (·.1) = (s ++ [(a, k)]).map (·.1) ++ [c] := by simp
 have hca : c ∈ rows a := by
  rw [← hc, List.getD_eq_getElem?_getD, List.getElem?_eq_getElem hk]
  exact List.getElem_mem hk
 have up : ∀ b, seen.getD b false = true → (seen.set c true).getD b false = true := fun b q => by
  rw [getD_set' hcl]; split
  ·rfl
  ·exact q
 refine ⟨by simp [h.len], fun b hb => ?_, ?_, fun b hb => ?_, fun s1 b k' s2 e => ?_, fun o1 b o2 e => ?_, fun b hb d hd => up d (h.cl b hb d hd), fun b k' hb => ?_, fun b hb => ?_, fun e => by simp at e⟩
 ·rw [getD_set' hcl, hm]
  by_cases e : b = c
  ·simp [e]
  ·rw [if_neg e, h.iff b hb]
   simp [e]
 ·rw [hm, ← List.append_assoc]
  exact List.nodup_append.2 ⟨h.nd, by simp, fun u hu v hv => by
   have : v = c := by simpa using hv
   subst this
   exact fun e => hnew (e ▸ hu)⟩
 ·rw [hm, ← List.append_assoc, List.mem_append] at hb
  rcases hb with hb | hb
  ·exact h.lt b hb
  ·have : b = c := by simpa using hb
   omega
 ·rcases snoc_cases s2 with rfl | ⟨s3, y, rfl⟩
  ·rw [show s ++ [(a, k + 1), (c, 0)] = (s ++ [(a, k + 1)]) ++ [(c, 0)] by simp] at e
   obtain ⟨e1, e2⟩ := List.append_inj' e rfl
   have : b = c := by simp at e2; exact e2.1.symm
   subst this
   subst e1
   exact .inr ⟨a, hca, by simp⟩
  ·rw [show s ++ [(a, k + 1), (c, 0)] = (s ++ [(a, k + 1)]) ++ [(c, 0)] by simp, ← List.cons_append, ← List.append_assoc] at e
   obtain ⟨e1, e2⟩ := List.append_inj' e rfl
   rcases snoc_cases s3 with rfl | ⟨s4, z, rfl⟩
   ·have e' := List.append_inj' e1 rfl
    have : b = a := by have := e'.2; simp at this; exact this.1.symm
    subst this
    obtain ⟨e3, _⟩ := e'
    subst e3
    exact h.par s b k [] rfl
   ·rw [← List.cons_append, ← List.append_assoc] at e1
    obtain ⟨e3, e4⟩ := List.append_inj' e1 rfl
    exact h.par s1 b k' (s4 ++ [(a, k)]) (by rw [e3]; simp)
 ·rcases h.opar o1 b o2 e with q | ⟨b', q1, q2⟩
  ·exact .inl q
  ·refine .inr ⟨b', q1, ?_⟩
   rcases q2 with q2 | q2
   ·exact .inl q2
   ·rw [hm]; exact .inr (List.mem_append_left _ q2)
 ·rw [show s ++ [(a, k + 1), (c, 0)] = s ++ ([(a, k + 1)] ++ [(c, 0)]) by simp] at hb
  rcases List.mem_append.1 hb with hb | hb
  ·obtain ⟨q1, q2⟩ := h.scl b k' (List.mem_append_left _ hb)
   exact ⟨q1, fun i hi => up _ (q2 i hi)⟩
  ·rcases List.mem_append.1 hb with hb | hb
   ·have : b = a ∧ k' = k + 1 := by simpa using hb
    obtain ⟨rfl, rfl⟩ := this
    refine ⟨hk, fun i hi => ?_⟩
    by_cases e : i = k
    ·subst e; rw [hc, getD_set' hcl, if_pos rfl]
    ·exact up _ ((h.scl b k (by simp)).2 i (by omega))
   ·have : b = c ∧ k' = 0 := by simpa using hb
    rw [this.2]
    exact ⟨Nat.zero_le _, fun i hi => by omega⟩
 ·rw [hm, ← List.append_assoc, List.mem_append] at hb
  rcases hb with hb | hb
  ·exact h.way b hb
  ·have : b = c := by simpa using hb
   subst this
   exact .step (h.way a (by simp)) hca
theorem left_push {B : Nat} {seen : List Bool} {s : List (Nat × Nat)} {a k c : Nat} (hk : k < (rows a).length) (hc : c < seen.length) (hs : seen.getD c false = false) (hB : (rows c).length ≤ B) : left rows B (seen.set c true) (s ++ [(a, k + 1), (c, 0)]) < left rows B seen (s ++ [(a, k)]) := by
 have := count_set' hc hs
 unfold left
 simp only [List.map_append, List.sum_append, List.map_cons, List.map_nil, List.sum_cons, List.sum_nil]
 rw [← this, Nat.add_mul]
 omega
theorem dfs_done {seen : List Bool} {out : List Nat} (hr : ∀ a, a < n → ∀ c, c ∈ rows a → c < n) (h : Dfs n x rows seen out []) : OrdL n x rows out.reverse := by
 have hlt : ∀ a, a ∈ out → a < n := fun a ha => h.lt a (by simp [ha])
 have hxo : x ∈ out := by
  obtain ⟨o, e⟩ := h.last rfl
  rw [e]; simp
 have hcl : ∀ a, a ∈ out → ∀ c, c ∈ rows a → c ∈ out := fun a ha c hc => by
  have := (h.iff c (hr a (hlt a ha) c hc)).1 (h.cl a ha c hc)
  simpa using this
 refine ⟨?_, ?_, fun a => ⟨fun ha => h.way a (by simpa using ha), fun hw => ?_⟩, fun a ha => hlt a (by simpa using ha), fun l1 a l2 e hne => ?_⟩
 ·obtain ⟨o, e⟩ := h.last rfl
  exact ⟨o.reverse, by rw [e]; simp⟩
 ·have := h.nd
  simp only [List.map_nil, List.append_nil] at this
  exact (List.reverse_perm out).symm.nodup this
 ·rw [List.mem_reverse]
  induction hw with
  | root => exact hxo
  | step hb hm ih => exact hcl _ ih _ hm
 ·have e2 : out = l2.reverse ++ a :: l1.reverse := by
   have := congrArg List.reverse e
   simpa using this
  rcases h.opar _ _ _ e2 with q | ⟨b, q1, q2⟩
  ·exact absurd q hne
  ·rcases q2 with q2 | q2
   ·exact ⟨b, q1, by simpa using q2⟩
   ·simp at q2
end
end Go.Proofs.Ytggaimcopbjdiaa.Post
