/- The document's answer for post-dominators: plain law. -/
import Derived.Test.YtdbehmepikhghaaPostNr
set_option linter.unusedVariables false
set_option linter.unusedSimpArgs false
set_option maxRecDepth 10000
namespace Go.Proofs.Ytdbehmepikhghaa.Graph
open Go.Proofs.Ytdbehmepikhghaa.AM Go.Proofs.Ytdbehmepikhghaa.Post
theorem wyA_snoc {nx : Nat → List Nat} {a b c : Nat} (h : Wy nx a b) (hc : c ∈ nx b) : Wy nx a c := h.trans (.step hc (.refl _))
theorem nxW_iff {code : List (Int × Int)} {q a c : Nat} : ((c : Nat) : Int) ∈ nxW code (q : Nat) a ↔ c ∈ nxN code a ∧ c ≠ q := by
  unfold nxW
  rw [List.mem_filter, ← next_nat, mem_natI, decide_eq_true_eq]
  constructor
  · rintro ⟨h1, h2⟩; exact ⟨h1, fun h => h2 (by rw [h])⟩
  · rintro ⟨h1, h2⟩; exact ⟨h1, fun h => h2 (by omega)⟩
theorem avA_snoc {nx : Nat → List Nat} {q a b c : Nat} (h : Av nx q a b) (hc : c ∈ nx b) (hq : c ≠ q) : Av nx q a c := by
  induction h with
  | refl h => exact .step h hc (.refl hq)
  | step h h' _ ih => exact .step h h' (ih hc)
theorem avA_src {nx : Nat → List Nat} {q a b : Nat} (h : Av nx q a b) : a ≠ q := by cases h <;> assumption
theorem wayA_head {nx : Nat → List Int} {a b c : Nat} (h : (b : Int) ∈ nx a) (w : WayG nx b c) : WayG nx a c := by
  induction w with
  | refl => exact .step .refl h
  | step _ hc ih => exact .step ih hc
theorem wayW_av {code : List (Int × Int)} {q s : Nat} (hs : s ≠ q) {b : Nat} : WayG (nxW code (q : Nat)) s b ↔ Av (nxN code) q s b := by
  constructor
  · intro h
    induction h with
    | refl => exact .refl hs
    | step _ hc ih => exact avA_snoc ih (nxW_iff.1 hc).1 (nxW_iff.1 hc).2
  · intro h
    have key : ∀ {s b : Nat}, Av (nxN code) q s b → WayG (nxW code (q : Nat)) s b := by
      intro s b h
      induction h with
      | refl _ => exact .refl
      | step h hc t ih => exact wayA_head (nxW_iff.2 ⟨hc, avA_src t⟩) ih
    exact key h
theorem withoutA_at {code : List (Int × Int)} {s q b : Nat} (hs : s < code.length + 1) (hb : b < code.length + 1) : (withoutL code (s : Nat) (q : Nat)).getD b false = true ↔ s ≠ q ∧ WayG (nxW code (q : Nat)) s b := by
  unfold withoutL
  by_cases e : s = q
  · subst e
    rw [if_pos rfl]
    simp [List.getD_eq_getElem?_getD, List.getElem?_replicate, hb]
  · rw [if_neg (by omega), reachG_at hb, Int.toNat_natCast]
    exact ⟨fun h => ⟨e, h.2.2⟩, fun h => ⟨by omega, by omega, h.2⟩⟩
theorem reachA_ex {code : List (Int × Int)} {p : Nat} (hp : p < code.length + 1) : (reachL code (p : Nat)).getD code.length false = true ↔ Ex code p := by
  unfold reachL
  rw [reachG_at (by omega), Int.toNat_natCast]
  have m : ∀ a c : Nat, ((c : Nat) : Int) ∈ nextI code (a : Nat) ↔ c ∈ nxN code a := fun a c => by rw [← next_nat, mem_natI]
  constructor
  · rintro ⟨_, _, w⟩
    unfold Ex
    generalize code.length = x at w
    induction w with
    | refl => exact .refl _
    | step _ hc ih => exact wyA_snoc ih ((m _ _).1 hc)
  · intro w
    refine ⟨by omega, by omega, ?_⟩
    unfold Ex at w
    clear hp
    generalize code.length = x at w
    induction w with
    | refl => exact .refl
    | step hc _ ih => exact wayA_head ((m _ _).2 hc) ih
/-- As the document tells it. -/
theorem dom_pd {code : List (Int × Int)} (h : TreeR code (nrT code)) {q p : Nat} (hp : p < code.length + 1) : ((reachL code (p : Nat)).getD code.length false && !((withoutL code (p : Nat) (q : Nat)).getD code.length false)) = pdB code q p := by
  rw [Bool.eq_iff_iff, Bool.and_eq_true, Bool.not_eq_true', ← Bool.not_eq_true, reachA_ex hp, withoutA_at hp (by omega)]
  unfold pdB
  rw [pB_iff, pd_iff h]
  unfold PD
  constructor
  · rintro ⟨h1, h2⟩
    exact ⟨h1, fun w => h2 ⟨avA_src w, (wayW_av (avA_src w)).2 w⟩⟩
  · rintro ⟨h1, h2⟩
    exact ⟨h1, fun w => h2 ((wayW_av w.1).1 w.2)⟩
/-- The strict ones, of the first k. -/
noncomputable def strictL (code : List (Int × Int)) (p k : Nat) : List Nat := (List.range k).filter fun q => decide (q ≠ p) && pdB code q p
theorem strict_mem {code : List (Int × Int)} {p k q : Nat} : q ∈ strictL code p k ↔ q < k ∧ q ≠ p ∧ pdB code q p = true := by
  unfold strictL
  rw [List.mem_filter, List.mem_range, Bool.and_eq_true, decide_eq_true_eq]
theorem chT {code : List (Int × Int)} {q p : Nat} : pdB code q p = true ↔ Ch code.length (nrT code) p q := pB_iff
/-- The one that all others post-dominate is the nearest. -/
theorem near_good {code : List (Int × Int)} (h : TreeR code (nrT code)) {p s : Nat} (hp : p < code.length) (hs : s ∈ strictL code p (code.length + 1)) (hg : ∀ q, q ∈ strictL code p (code.length + 1) → pdB code q s = true) : nrT code p = some s := by
  obtain ⟨h1, h2, h3⟩ := strict_mem.1 hs
  have hc := chT.1 h3
  have hex := (pd_iff h).1 hc
  obtain ⟨e, he⟩ := Option.isSome_iff_exists.1 ((h.sm p).2 hex.1)
  obtain ⟨n1, n2, n3⟩ := h.step hex.1 (by omega) he
  have hpe : Ch code.length (nrT code) p e := (pd_iff h).2 ⟨hex.1, n3⟩
  have hes : e ∈ strictL code p (code.length + 1) := strict_mem.2 ⟨ex_lt n2, n1, chT.2 hpe⟩
  have c1 := chT.1 (hg e hes)
  have c2 : Ch code.length (nrT code) e s := by
    rcases (ch_up (by omega) he ((h.sm e).2 n2)).1 hc with w | w
    · exact absurd w h2
    · exact w
  rw [he, h.anti c1 c2]
theorem near_is {code : List (Int × Int)} (h : TreeR code (nrT code)) {p e : Nat} (hp : p < code.length) (he : nrT code p = some e) : e ∈ strictL code p (code.length + 1) ∧ ∀ q, q ∈ strictL code p (code.length + 1) → pdB code q e = true := by
  have hex : Ex code p := (h.sm p).1 (by rw [he]; rfl)
  obtain ⟨n1, n2, n3⟩ := h.step hex (by omega) he
  refine ⟨strict_mem.2 ⟨ex_lt n2, n1, chT.2 ((pd_iff h).2 ⟨hex, n3⟩)⟩, fun q hq => ?_⟩
  obtain ⟨h1, h2, h3⟩ := strict_mem.1 hq
  rcases (ch_up (by omega) he ((h.sm e).2 n2)).1 (chT.1 h3) with w | w
  · exact absurd w h2
  · exact chT.2 w
theorem ext_getDp {l l' : List Int} (h : l.length = l'.length) (he : ∀ i, i < l.length → l.getD i 0 = l'.getD i 0) : l = l' := by
  apply List.ext_getElem h
  intro i h1 h2
  have := he i h1
  rw [List.getD_eq_getElem?_getD, List.getD_eq_getElem?_getD, List.getElem?_eq_getElem h1, List.getElem?_eq_getElem h2] at this
  exact this
/-- Is one above another, as the document tells it? -/
noncomputable def domB (code : List (Int × Int)) (q p : Nat) : Bool := (reachL code (p : Nat)).getD code.length false && !((withoutL code (p : Nat) (q : Nat)).getD code.length false)
theorem domB_pd {code : List (Int × Int)} (h : TreeR code (nrT code)) {q p : Nat} (hp : p < code.length + 1) : domB code q p = pdB code q p := dom_pd h hp
/-- The same, of whatever numbers. -/
noncomputable def domI (code : List (Int × Int)) (q p : Int) : Bool := decide (0 ≤ q ∧ q ≤ (code.length : Nat) ∧ 0 ≤ p ∧ p ≤ (code.length : Nat)) && domB code q.toNat p.toNat
theorem domI_nat {code : List (Int × Int)} {q p : Nat} (hq : q < code.length + 1) (hp : p < code.length + 1) : domI code (q : Nat) (p : Nat) = domB code q p := by
  unfold domI
  rw [decide_eq_true ⟨by omega, by omega, by omega, by omega⟩, Bool.true_and, Int.toNat_natCast, Int.toNat_natCast]
theorem domI_out {code : List (Int × Int)} {q p : Int} (h : ¬ (0 ≤ q ∧ q ≤ (code.length : Nat) ∧ 0 ≤ p ∧ p ≤ (code.length : Nat))) : domI code q p = false := by
  unfold domI
  rw [decide_eq_false h, Bool.false_and]
noncomputable def rowDD (code : List (Int × Int)) (p : Nat) : List Bool := (List.range (code.length + 1)).map fun r => domB code r p
theorem rowDD_len (code : List (Int × Int)) (p : Nat) : (rowDD code p).length = code.length + 1 := by simp [rowDD]
theorem rowDD_at {code : List (Int × Int)} {p r : Nat} (hr : r < code.length + 1) : (rowDD code p).getD r false = domB code r p := by
  unfold rowDD
  rw [List.getD_eq_getElem?_getD, List.getElem?_map, List.getElem?_range hr]; rfl
/-- Strict, and post-dominated by all other strict ones. -/
noncomputable def goodN (code : List (Int × Int)) (p q : Nat) : Bool := (decide (q ≠ p) && domB code q p) && (List.range (code.length + 1)).all fun r => !(decide (r ≠ p) && domB code r p && !(domB code r q))
noncomputable def nearO (code : List (Int × Int)) (p : Nat) : Option Nat := (List.range (code.length + 1)).find? (goodN code p)
theorem no_strict {code : List (Int × Int)} (h : TreeR code (nrT code)) {q : Nat} (hc : pdB code q code.length = true) : q = code.length := by
  cases chT.1 hc with
  | refl _ => rfl
  | step hx _ _ => exact absurd rfl hx
theorem goodN_iff {code : List (Int × Int)} (h : TreeR code (nrT code)) {p q : Nat} (hp : p < code.length + 1) (hq : q < code.length + 1) : goodN code p q = true ↔ q ∈ strictL code p (code.length + 1) ∧ ∀ r, r ∈ strictL code p (code.length + 1) → pdB code r q = true := by
  unfold goodN
  rw [Bool.and_eq_true, List.all_eq_true, domB_pd h hp, strict_mem, Bool.and_eq_true, decide_eq_true_eq]
  constructor
  · rintro ⟨⟨h1, h2⟩, h3⟩
    refine ⟨⟨hq, h1, h2⟩, fun r hr => ?_⟩
    obtain ⟨r1, r2, r3⟩ := strict_mem.1 hr
    have := h3 r (List.mem_range.2 r1)
    rw [domB_pd h hp, domB_pd h hq, r3, decide_eq_true r2] at this
    simpa using this
  · rintro ⟨⟨_, h1, h2⟩, h3⟩
    refine ⟨⟨h1, h2⟩, fun r hr => ?_⟩
    have hr' := List.mem_range.1 hr
    rw [domB_pd h hp, domB_pd h hq]
    by_cases e : r ≠ p ∧ pdB code r p = true
    · rw [h3 r (strict_mem.2 ⟨hr', e.1, e.2⟩)]; simp
    · by_cases e1 : r = p
      · simp [e1]
      · have : pdB code r p = false := by
          rw [← Bool.not_eq_true]; exact fun w => e ⟨e1, w⟩
        simp [this]
/-- The nearest one, as the tree tells it. -/
noncomputable def nearT (code : List (Int × Int)) (p : Nat) : Option Nat := if p = code.length then none else nrT code p
theorem near_one {code : List (Int × Int)} (h : TreeR code (nrT code)) {p : Nat} (hp : p < code.length + 1) (o : Option Nat) (h1 : ∀ s, o = some s → s ∈ strictL code p (code.length + 1) ∧ ∀ r, r ∈ strictL code p (code.length + 1) → pdB code r s = true) (h2 : o = none → ∀ s, s ∈ strictL code p (code.length + 1) → ¬ ∀ r, r ∈ strictL code p (code.length + 1) → pdB code r s = true) : o = nearT code p := by
  unfold nearT
  by_cases e : p = code.length
  · rw [if_pos e]
    cases o with
    | none => rfl
    | some s =>
      obtain ⟨q1, q2, q3⟩ := strict_mem.1 (h1 s rfl).1
      rw [e] at q3 q2
      exact absurd (no_strict h q3) q2
  · rw [if_neg e]
    cases o with
    | some s => exact (near_good h (by omega) (h1 s rfl).1 (h1 s rfl).2).symm
    | none =>
      cases hn : nrT code p with
      | none => rfl
      | some b =>
        obtain ⟨q1, q2⟩ := near_is h (by omega) hn
        exact absurd q2 (h2 rfl b q1)
theorem nearO_eq {code : List (Int × Int)} (h : TreeR code (nrT code)) {p : Nat} (hp : p < code.length + 1) : nearO code p = nearT code p := by
  refine near_one h hp _ (fun s e => ?_) fun e s hs hg => ?_
  · unfold nearO at e
    have hs := List.mem_range.1 (List.mem_of_find?_eq_some e)
    exact (goodN_iff h hp hs).1 (List.find?_some e)
  · unfold nearO at e
    have hs' := (strict_mem.1 hs).1
    exact absurd ((goodN_iff h hp hs').2 ⟨hs, hg⟩) (List.find?_eq_none.1 e s (List.mem_range.2 hs'))
theorem treeO_eq {code : List (Int × Int)} (h : TreeR code (nrT code)) : ((List.range (code.length + 1)).map fun p => ofN (nearO code p)) = treeT code := by
  refine ext_getDp (by simp [treeT_len]) fun p hp => ?_
  have hp' : p < code.length + 1 := by simpa using hp
  rw [treeT_at hp', List.getD_eq_getElem?_getD, List.getElem?_map, List.getElem?_range hp']
  show ofN (nearO code p) = _
  rw [nearO_eq h hp']
  unfold nearT
  by_cases e : p = code.length <;> simp [e, ofN]
/-- The strict ones of whatever number, of the first k. -/
noncomputable def strictI (code : List (Int × Int)) (p : Int) (k : Nat) : List Nat := (List.range k).filter fun q => decide (((q : Nat) : Int) ≠ p) && domI code (q : Nat) p
theorem strictI_succ {code : List (Int × Int)} {p : Int} {k : Nat} : strictI code p (k + 1) = if (decide (((k : Nat) : Int) ≠ p) && domI code (k : Nat) p) = true then strictI code p k ++ [k] else strictI code p k := by
  unfold strictI
  rw [List.range_succ, List.filter_append]
  by_cases h : (decide (((k : Nat) : Int) ≠ p) && domI code (k : Nat) p) = true
  · rw [if_pos h, List.filter_cons_of_pos (by exact h)]; rfl
  · rw [if_neg h, List.filter_cons_of_neg (by exact h)]; simp
theorem strictI_len {code : List (Int × Int)} {p : Int} {k : Nat} : (strictI code p k).length ≤ k := by
  unfold strictI
  exact Nat.le_trans (List.length_filter_le _ _) (by simp)
theorem strictI_lt {code : List (Int × Int)} {p : Int} {k s : Nat} (h : s ∈ strictI code p k) : s < k := List.mem_range.1 (List.mem_filter.1 h).1
noncomputable def nearR (code : List (Int × Int)) (p : Int) : Option Nat := (strictI code p (code.length + 1)).find? fun s => (strictI code p (code.length + 1)).all fun q => domI code (q : Nat) (s : Nat)
/-- The nearest one of whatever number. -/
noncomputable def nearI (code : List (Int × Int)) (p : Int) : Option Nat := if 0 ≤ p ∧ p ≤ (code.length : Nat) then nearT code p.toNat else none
theorem strictI_nat {code : List (Int × Int)} (h : TreeR code (nrT code)) {p : Nat} (hp : p < code.length + 1) : strictI code (p : Nat) (code.length + 1) = strictL code p (code.length + 1) := by
  unfold strictI strictL
  refine List.filter_congr fun q hq => ?_
  rw [domI_nat (List.mem_range.1 hq) hp, domB_pd h hp]
  congr 1
  rw [decide_eq_decide]
  omega
theorem nearR_eq {code : List (Int × Int)} (h : TreeR code (nrT code)) (p : Int) : nearR code p = nearI code p := by
  unfold nearI
  by_cases hp : 0 ≤ p ∧ p ≤ (code.length : Nat)
  · rw [if_pos hp]
    obtain ⟨a, rfl⟩ : ∃ a : Nat, p = a := ⟨p.toNat, by omega⟩
    have ha : a < code.length + 1 := by omega
    rw [Int.toNat_natCast]
    have hall : ∀ s, s < code.length + 1 → ((strictL code a (code.length + 1)).all fun q => domI code (q : Nat) (s : Nat)) = true → ∀ r, r ∈ strictL code a (code.length + 1) → pdB code r s = true := fun s hs hx r hr => by
      have := List.all_eq_true.1 hx r hr
      rwa [domI_nat (strict_mem.1 hr).1 hs, domB_pd h hs] at this
    refine near_one h ha _ (fun s e => ?_) fun e s hs hg => ?_
    · unfold nearR at e
      rw [strictI_nat h ha] at e
      have hs := List.mem_of_find?_eq_some e
      have hf := List.find?_some e
      exact ⟨hs, hall s (strict_mem.1 hs).1 hf⟩
    · unfold nearR at e
      rw [strictI_nat h ha] at e
      have hs' := (strict_mem.1 hs).1
      refine absurd (List.all_eq_true.2 fun r hr => ?_) (List.find?_eq_none.1 e s hs)
      rw [domI_nat (strict_mem.1 hr).1 hs', domB_pd h hs']
      exact hg r hr
  · rw [if_neg hp]
    have : strictI code p (code.length + 1) = [] := by
      unfold strictI
      rw [List.filter_eq_nil_iff]
      intro q hq
      rw [domI_out fun w => hp ⟨w.2.2.1, w.2.2.2⟩]
      simp
    unfold nearR
    rw [this]; rfl
end Go.Proofs.Ytdbehmepikhghaa.Graph
