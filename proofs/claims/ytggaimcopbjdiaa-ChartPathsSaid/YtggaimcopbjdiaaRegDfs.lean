import Derived.Test.YtggaimcopbjdiaaRegPut
set_option linter.unusedVariables false
set_option linter.unusedSimpArgs false
namespace Go.Proofs.Ytggaimcopbjdiaa.Graph
open Go.Proofs.Ytggaimcopbjdiaa.AM Go.Proofs.Ytggaimcopbjdiaa.Post
inductive Rg (nx : Nat → List Nat) (b e x : Nat) : Nat → Prop
 | first {a : Nat} (h : a ∈ nx b) (he : a ≠ e) (hx : a ≠ x) : Rg nx b e x a
 | step {c a : Nat} (h : Rg nx b e x c) (hc : a ∈ nx c) (he : a ≠ e) (hx : a ≠ x) : Rg nx b e x a
structure Wk (n b e x : Nat) (nx : Nat → List Nat) (met : List Int) (told todo : List Nat) : Prop where
 len : met.length = n
 iff : ∀ a, a < n → (met.getD a 0 = ((b + 1 : Nat) : Int) ↔ a ∈ told ∨ a ∈ todo)
 nd : (told ++ todo).Nodup
 lt : ∀ a, a ∈ told ++ todo → a < n
 rg : ∀ a, a ∈ told ++ todo → Rg nx b e x a
 le : ∀ a, a < n → met.getD a 0 ≤ ((b + 1 : Nat) : Int)
theorem wk_mark {n b e x : Nat} {nx : Nat → List Nat} {met : List Int} {told todo : List Nat} (h : Wk n b e x nx met told todo) {a : Nat} (ha : a < n) (hr : a ≠ e → a ≠ x → Rg nx b e x a) : Wk n b e x nx (mark1 b e x (met, todo) a).1 told (mark1 b e x (met, todo) a).2 ∧ (∀ c, c ∈ todo → c ∈ (mark1 b e x (met, todo) a).2) ∧ (a ≠ e → a ≠ x → a ∈ told ∨ a ∈ (mark1 b e x (met, todo) a).2) := by
 unfold mark1
 split
 ·next hc =>
  obtain ⟨h1, h2, h3⟩ := hc
  have hl := h.len
  have hg : ∀ c, c < n → (met.set a ((b + 1 : Nat) : Int)).getD c 0 = if c = a then ((b + 1 : Nat) : Int) else met.getD c 0 := fun c hc => by
   rw [List.getD_eq_getElem?_getD]
   by_cases w : c = a
   ·subst w; rw [List.getElem?_set_self (by omega), if_pos rfl]; rfl
   ·rw [List.getElem?_set_ne (Ne.symm w), if_neg w, List.getD_eq_getElem?_getD]
  have hna : ¬ (a ∈ told ∨ a ∈ todo) := fun q => h3 ((h.iff a ha).2 q)
  refine ⟨⟨by rw [List.length_set]; exact hl, fun c hc => ?_, ?_, fun c hc => ?_, fun c hc => ?_, fun c hc => ?_⟩, fun c hc => List.mem_append_left _ hc, fun _ _ => .inr (by simp)⟩
  ·rw [hg c hc]
   by_cases w : c = a
   ·rw [if_pos w, w]; simp
   ·rw [if_neg w, h.iff c hc]; simp [w]
  ·rw [← List.append_assoc]
   refine List.nodup_append.2 ⟨h.nd, by simp, fun y hy z hz => ?_⟩
   have : z = a := by simpa using hz
   subst this
   intro q
   subst q
   exact hna (List.mem_append.1 hy)
  ·rw [← List.append_assoc] at hc
   rcases List.mem_append.1 hc with q | q
   ·exact h.lt c q
   ·have : c = a := by simpa using q
    exact this ▸ ha
  ·rw [← List.append_assoc] at hc
   rcases List.mem_append.1 hc with q | q
   ·exact h.rg c q
   ·have : c = a := by simpa using q
    exact this ▸ hr h1 h2
  ·rw [hg c hc]
   by_cases w : c = a
   ·rw [if_pos w]; exact Int.le_refl _
   ·rw [if_neg w]; exact h.le c hc
 ·next hc =>
  refine ⟨h, fun c hc => hc, fun h1 h2 => ?_⟩
  by_cases h3 : met.getD a 0 = ((b + 1 : Nat) : Int)
  ·exact (h.iff a ha).1 h3
  ·exact absurd ⟨h1, h2, h3⟩ hc
theorem wk_markL {n b e x : Nat} {nx : Nat → List Nat} {told : List Nat} : ∀ {l : List Nat} {met : List Int} {todo : List Nat}, Wk n b e x nx met told todo → (∀ a, a ∈ l → a < n ∧ (a ≠ e → a ≠ x → Rg nx b e x a)) → Wk n b e x nx (markL b e x (met, todo) l).1 told (markL b e x (met, todo) l).2 ∧ (∀ c, c ∈ todo → c ∈ (markL b e x (met, todo) l).2) ∧ ∀ a, a ∈ l → a ≠ e → a ≠ x → a ∈ told ∨ a ∈ (markL b e x (met, todo) l).2
 | [], met, todo, h, _ => ⟨h, fun c hc => hc, fun a ha => by simp at ha⟩
 | a :: l, met, todo, h, hl => by
   obtain ⟨ha, hr⟩ := hl a (by simp)
   obtain ⟨h1, h2, h3⟩ := wk_mark h ha hr
   have ih := wk_markL (l := l) (met := (mark1 b e x (met, todo) a).1) (todo := (mark1 b e x (met, todo) a).2) h1 fun c hc => hl c (by simp [hc])
   obtain ⟨i1, i2, i3⟩ := ih
   show Wk n b e x nx (markL b e x (mark1 b e x (met, todo) a) l).1 told (markL b e x (mark1 b e x (met, todo) a) l).2 ∧ _
   refine ⟨i1, fun c hc => i2 c (h2 c hc), fun c hc q1 q2 => ?_⟩
   rcases List.mem_cons.1 hc with w | w
   ·subst w
    rcases h3 q1 q2 with y | y
    ·exact .inl y
    ·exact .inr (i2 _ y)
   ·exact i3 c w q1 q2
structure Wd (n b e x : Nat) (nx : Nat → List Nat) (met : List Int) (told todo : List Nat) : Prop where
 w : Wk n b e x nx met told todo
 c0 : ∀ a, a ∈ nx b → a ≠ e → a ≠ x → a ∈ told ∨ a ∈ todo
 cl : ∀ c, c ∈ told → ∀ a, a ∈ nx c → a ≠ e → a ≠ x → a ∈ told ∨ a ∈ todo
theorem wd_first {n b e x : Nat} {nx : Nat → List Nat} {met : List Int} (hl : met.length = n) (hm : ∀ a, a < n → met.getD a 0 ≤ ((b : Nat) : Int)) (hn : ∀ c a, a ∈ nx c → a < n) : Wd n b e x nx (markL b e x (met, []) (nx b)).1 [] (markL b e x (met, []) (nx b)).2 := by
 have h0 : Wk n b e x nx met [] [] := ⟨hl, fun a ha => ⟨fun q => by have := hm a ha; omega, fun q => by simp at q⟩, by simp, fun a ha => by simp at ha, fun a ha => by simp at ha, fun a ha => by have := hm a ha; omega⟩
 obtain ⟨h1, _, h3⟩ := wk_markL h0 fun a ha => ⟨hn b a ha, fun q1 q2 => Rg.first ha q1 q2⟩
 exact ⟨h1, h3, fun c hc => by simp at hc⟩
theorem wd_step {n b e x : Nat} {nx : Nat → List Nat} {met : List Int} {told todo : List Nat} {c : Nat} (h : Wd n b e x nx met told (todo ++ [c])) (hn : ∀ c a, a ∈ nx c → a < n) : Wd n b e x nx (markL b e x (met, todo) (nx c)).1 (told ++ [c]) (markL b e x (met, todo) (nx c)).2 := by
 have mv : ∀ a, (a ∈ told ++ [c] ∨ a ∈ todo) ↔ (a ∈ told ∨ a ∈ todo ++ [c]) := fun a => by
  simp only [List.mem_append, List.mem_singleton]
  constructor
  ·rintro ((q | q) | q)
   ·exact .inl q
   ·exact .inr (.inr q)
   ·exact .inr (.inl q)
  ·rintro (q | q | q)
   ·exact .inl (.inl q)
   ·exact .inr q
   ·exact .inl (.inr q)
 have hrc := h.w.rg c (by simp)
 have hw : Wk n b e x nx met (told ++ [c]) todo := ⟨h.w.len, fun a ha => (h.w.iff a ha).trans (mv a).symm, by
  have := h.w.nd
  refine (List.Perm.nodup_iff ?_).1 this
  rw [List.append_assoc]
  exact List.Perm.append_left _ List.perm_append_comm, fun a ha => h.w.lt a (List.mem_append.2 ((mv a).1 (List.mem_append.1 ha))), fun a ha => h.w.rg a (List.mem_append.2 ((mv a).1 (List.mem_append.1 ha))), h.w.le⟩
 obtain ⟨h1, h2, h3⟩ := wk_markL hw fun a ha => ⟨hn c a ha, fun q1 q2 => Rg.step hrc ha q1 q2⟩
 have up : ∀ a, (a ∈ told ∨ a ∈ todo ++ [c]) → a ∈ told ++ [c] ∨ a ∈ (markL b e x (met, todo) (nx c)).2 := fun a q => by
  rcases (mv a).2 q with w | w
  ·exact .inl w
  ·exact .inr (h2 a w)
 refine ⟨h1, fun a ha q1 q2 => up a (h.c0 a ha q1 q2), fun d hd a ha q1 q2 => ?_⟩
 rcases List.mem_append.1 hd with w | w
 ·exact up a (h.cl d w a ha q1 q2)
 ·have : d = c := by simpa using w
  subst this
  exact h3 a ha q1 q2
theorem wd_done {n b e x : Nat} {nx : Nat → List Nat} {met : List Int} {told : List Nat} (h : Wd n b e x nx met told []) : told.Nodup ∧ (∀ a, a ∈ told ↔ Rg nx b e x a) ∧ ∀ a, a ∈ told → a < n := by
 refine ⟨by simpa using h.w.nd, fun a => ⟨fun q => h.w.rg a (by simpa using q), fun q => ?_⟩, fun a q => h.w.lt a (by simpa using q)⟩
 induction q with
 | first ha he hx => simpa using h.c0 _ ha he hx
 | step _ hc he hx ih => simpa using h.cl _ ih _ hc he hx
end Go.Proofs.Ytggaimcopbjdiaa.Graph
