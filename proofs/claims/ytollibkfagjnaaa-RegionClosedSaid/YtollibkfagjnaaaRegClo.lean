/- Regions are closed: plain law. -/
import Derived.Test.YtollibkfagjnaaaRegOf
import Derived.Test.YtollibkfagjnaaaGraphQ
import Derived.Test.YtollibkfagjnaaaRegGov
set_option linter.unusedVariables false
set_option linter.unusedSimpArgs false
set_option maxRecDepth 10000
namespace Go.Proofs.Ytollibkfagjnaaa.Graph
open Go.Proofs.Ytollibkfagjnaaa.AM Go.Proofs.Ytollibkfagjnaaa.Post
theorem av_trans {nx : Nat → List Nat} {q a b c : Nat} (h : Av nx q a b) (k : Av nx q b c) : Av nx q a c := by
  induction h with
  | refl _ => exact k
  | step h hc _ ih => exact .step h hc (ih k)
/-- On a way, either one comes first, or neither. -/
theorem way_first {nx : Nat → List Nat} {e q x : Nat} (hne : e ≠ q) {a : Nat} (w : Wy nx a x) : Av nx e a x ∨ Av nx e a q ∨ Av nx q a e := by
  induction w with
  | refl a =>
    by_cases h : a = e
    · subst h; exact .inr (.inr (.refl hne))
    · exact .inl (.refl h)
  | @step a c b hc t ih =>
    by_cases h1 : a = e
    · subst h1; exact .inr (.inr (.refl hne))
    · by_cases h2 : a = q
      · subst h2; exact .inr (.inl (.refl h1))
      · rcases ih with w | w | w
        · exact .inl (.step h1 hc w)
        · exact .inr (.inl (.step h1 hc w))
        · exact .inr (.inr (.step h2 hc w))
section
variable {code : List (Int × Int)} {b e a : Nat}
theorem rg_av (h : Rg (nxN code) b e code.length a) (hbe : b ≠ e) : Av (nxN code) e b a := by
  induction h with
  | first h he hx => exact .step hbe h (.refl he)
  | step _ hc he hx ih => exact avA_snoc ih hc he
theorem av_rg {q : Nat} (h : Av (nxN code) e a q) (hq : q ≠ code.length) (ha : Rg (nxN code) b e code.length a) : Rg (nxN code) b e code.length q := by
  induction h with
  | refl _ => exact ha
  | @step a q c h hc t ih =>
    by_cases hcx : c = code.length
    · subst hcx
      cases t with
      | refl _ => exact absurd rfl hq
      | step _ hc' _ => have := (nx_lt hc').1; omega
    · exact ih hq (.step ha hc (avA_src t) hcx)
/-- What is known of a branch that governs something. -/
structure Br (code : List (Int × Int)) (b e : Nat) : Prop where
  hT : TreeR code (nrT code)
  hb : b < code.length
  he : nrT code b = some e
theorem Br.ne (h : Br code b e) : b ≠ e ∧ Ex code e ∧ ¬ Av (nxN code) e b code.length := by
  have hex : Ex code b := (h.hT.sm b).1 (by rw [h.he]; rfl)
  obtain ⟨h1, h2, h3⟩ := h.hT.step hex (by have := h.hb; omega) h.he
  exact ⟨fun q => h1 q.symm, h2, h3⟩
theorem Br.mem (h : Br code b e) : a ∈ ofL code b ↔ Rg (nxN code) b e code.length a := by
  rw [of_mem]
  constructor
  · rintro ⟨_, _, e', he', hr⟩
    rw [h.he] at he'; cases he'; exact hr
  · intro hr
    have hg : Reg code b a := ⟨h.hb, e, h.he, hr⟩
    exact ⟨reg_lt hg, hg⟩
theorem Br.not_near (h : Br code b e) : e ∉ ofL code b := fun hm => by
  cases h.mem.1 hm with
  | first _ he _ => exact he rfl
  | step _ _ he _ => exact he rfl
theorem not_end : code.length ∉ ofL code b := fun hm => by have := (of_mem.1 hm).1; omega
/-- What follows on b or on what it governs: the nearest one, or governed. -/
theorem Br.next (h : Br code b e) {c : Nat} (hc : c ∈ nxN code b) (hce : c ≠ e) : c ∈ ofL code b := by
  obtain ⟨h1, h2, h3⟩ := h.ne
  refine h.mem.2 (.first hc hce fun q => ?_)
  subst q
  exact h3 (.step h1 hc (.refl hce))
theorem Br.next2 (h : Br code b e) {c : Nat} (ha : a ∈ ofL code b) (hc : c ∈ nxN code a) (hce : c ≠ e) : c ∈ ofL code b := by
  obtain ⟨h1, h2, h3⟩ := h.ne
  have hr := h.mem.1 ha
  refine h.mem.2 (.step hr hc hce fun q => ?_)
  subst q
  exact h3 (avA_snoc (rg_av hr h1) hc hce)
theorem Br.one (h : Br code b e) (hl : (nxN code b).length = 1) : ofL code b = [] := by
  obtain ⟨c, hc⟩ : ∃ c, nxN code b = [c] := List.length_eq_one_iff.1 hl
  have hec := one_near h.hT (by have := h.hb; omega) h.he hc
  cases hx : ofL code b with
  | nil => rfl
  | cons a l =>
    have hm : a ∈ ofL code b := by rw [hx]; exact List.mem_cons_self ..
    exfalso
    have : ∀ a, Rg (nxN code) b e code.length a → False := by
      intro a hr
      induction hr with
      | first h he _ =>
        rw [hc] at h
        have := List.mem_singleton.1 h
        omega
      | step _ _ _ _ ih => exact ih
    exact this a (h.mem.1 hm)
/-- It post-dominates all that is governed, and what is nearest to that is governed, or it. -/
theorem Br.pd (h : Br code b e) (ha : a ∈ ofL code b) (hx : Ex code a) : pdB code e a = true := by
  obtain ⟨h1, h2, h3⟩ := h.ne
  have hr := h.mem.1 ha
  refine chT.2 ((pd_iff h.hT).2 ⟨hx, fun w => h3 (av_trans (rg_av hr h1) w)⟩)
theorem Br.near (h : Br code b e) (ha : a ∈ ofL code b) (hx : Ex code a) {q : Nat} (hq : nrT code a = some q) (hqe : q ≠ e) : q ∈ ofL code b := by
  obtain ⟨h1, h2, h3⟩ := h.ne
  have hal := (of_mem.1 ha).1
  have hr := h.mem.1 ha
  have hae : a ≠ e := fun w => by
    subst w; exact h.not_near ha
  have hpe := chT.1 (h.pd ha hx)
  obtain ⟨n1, n2, n3⟩ := h.hT.step hx (by omega) hq
  have hqe' : Ch code.length (nrT code) q e := by
    rcases (ch_up (by omega) hq ((h.hT.sm q).2 n2)).1 hpe with w | w
    · exact absurd w.symm hae
    · exact w
  have hqx : q ≠ code.length := fun w => by
    subst w
    cases hqe' with
    | refl _ => exact hqe rfl
    | step hne _ _ => exact hne rfl
  have hpd := ((pd_iff h.hT).1 hpe).2
  rcases way_first (e := e) (q := q) (fun w => hqe w.symm) hx with w | w | w
  · exact absurd w hpd
  · exact h.mem.2 (av_rg w hqx hr)
  · exfalso
    have hce : Ch code.length (nrT code) e q := (pd_iff h.hT).2 ⟨h2, fun u => n3 (av_trans w u)⟩
    exact hqe (h.hT.anti hqe' hce)
theorem gov_mem : ∀ {k : Nat}, b ∈ govL code a k ↔ b < k ∧ Reg code b a
  | 0 => by simp [govL]
  | k + 1 => by
    have ih := gov_mem (k := k)
    simp only [govL]
    split
    · next hr =>
      rw [List.mem_append, List.mem_singleton, ih]
      constructor
      · rintro (⟨h1, h2⟩ | h)
        · exact ⟨by omega, h2⟩
        · subst h; exact ⟨by omega, hr⟩
      · rintro ⟨h1, h2⟩
        by_cases e : b = k
        · exact .inr e
        · exact .inl ⟨by omega, h2⟩
    · next hr =>
      rw [ih]
      constructor
      · rintro ⟨h1, h2⟩; exact ⟨by omega, h2⟩
      · rintro ⟨h1, h2⟩
        refine ⟨?_, h2⟩
        by_cases e : b = k
        · subst e; exact absurd h2 hr
        · omega
theorem of_none (h : nrT code b = none) : ofL code b = [] := by
  unfold ofL
  rw [List.filter_eq_nil_iff]
  intro a _
  rw [pB_iff]
  rintro ⟨_, e, he, _⟩
  rw [h] at he; cases he
/-- In order, none twice. -/
theorem of_less {i : Nat} {x y : Nat} (hi : 0 < i) (h1 : (ofL code b)[i]? = some x) (h2 : (ofL code b)[i - 1]? = some y) : y < x := by
  have hp : (ofL code b).Pairwise (· < ·) := List.Pairwise.sublist List.filter_sublist List.pairwise_lt_range
  rw [List.pairwise_iff_getElem] at hp
  obtain ⟨q1, rfl⟩ := List.getElem?_eq_some_iff.1 h1
  obtain ⟨q2, rfl⟩ := List.getElem?_eq_some_iff.1 h2
  exact hp (i - 1) i q2 q1 (by omega)
theorem all_ex (h : ∀ a : Nat, a < code.length → (reachL code (a : Nat)).getD code.length false = true) (ha : a < code.length) : Ex code a := (reachA_ex (by omega)).1 (h a ha)
end
theorem mem_nat {l : List Nat} {x : Nat} : decide (((x : Nat) : Int) ∈ natI l) = decide (x ∈ l) := by
  rw [decide_eq_decide]; exact mem_natI
theorem has16_ok (xs : List Int) (n : Int) (hx : xs.length < 1000000000) : PFun E 50 [encI xs, i64 n] (valQ (isV (.s (.bool (decide (n ∈ xs)))))) := by
  refine p_fun ?_
  show PTri E false [] _ [encI xs, i64 n, .junk, .junk, .junk, .junk] _ _
  refine s_run ?_
  refine s_ass (s_run ?_)
  refine s_loop (fun i => i ≤ xs.length ∧ n ∉ xs.take i) (fun i => xs.length - i) (fun i => [encI xs, i64 n, .s (.bool false), .s (.int .i64 (i : Nat)), .junk, .junk]) (fun _ => []) 0 ⟨Nat.zero_le _, by simp⟩ (wk [] [] _ _) ?_
  rintro i ⟨hi, he⟩
  refine s_ass (s_run ?_)
  refine s_cond (fun h => ?_) (fun h => ?_)
  · simp only [decide_eq_true_eq] at h
    have hl : i < xs.length := by omega
    have hg : xs.getD i 0 = xs[i] := by simp [List.getD_eq_getElem?_getD, hl]
    refine s_skip (s_block (s_run ?_))
    refine e_cond (fun h2 => ?_) (fun h2 => ?_)
    · have : n ∈ xs := by
        simp only [beq_iff_eq] at h2
        rw [← h2, hg]; exact List.getElem_mem hl
      rw [decide_eq_true this]
      refine s_run ?_
      exact p_ret fin_v
    · refine p_skip (e_run ?_)
      refine lp_next (i + 1) ⟨by omega, ?_⟩ (wk [] [] _ _)
      simp only [beq_eq_false_iff_ne, ne_eq] at h2
      rw [hg] at h2
      rw [List.take_succ_eq_append_getElem hl, List.mem_append, not_or]
      exact ⟨he, fun x => h2 (List.mem_singleton.1 x).symm⟩
  · simp only [decide_eq_false_iff_not] at h
    refine s_exit ?_
    have : n ∉ xs := by
      have hi' : i = xs.length := by omega
      rw [hi', List.take_length] at he
      exact he
    rw [decide_eq_false this]
    refine s_run ?_
    exact p_ret fin_v
end Go.Proofs.Ytollibkfagjnaaa.Graph
