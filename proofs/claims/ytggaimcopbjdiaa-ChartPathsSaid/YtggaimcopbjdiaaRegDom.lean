import Derived.Test.YtggaimcopbjdiaaRegLev
set_option linter.unusedVariables false
set_option linter.unusedSimpArgs false
set_option maxRecDepth 10000
namespace Go.Proofs.Ytggaimcopbjdiaa.Graph
open Go.Proofs.Ytggaimcopbjdiaa.AM Go.Proofs.Ytggaimcopbjdiaa.Post
theorem wyA_snoc {nx : Nat → List Nat} {a b c : Nat} (h : Wy nx a b) (hc : c ∈ nx b) : Wy nx a c := h.trans (.step hc (.refl _))
theorem nxW_iff {code : List (Int × Int)} {q a c : Nat} : ((c : Nat) : Int) ∈ nxW code (q : Nat) a ↔ c ∈ nxN code a ∧ c ≠ q := by
 unfold nxW
 rw [List.mem_filter, ← next_nat, mem_natI, decide_eq_true_eq]
 constructor
 ·rintro ⟨h1, h2⟩; exact ⟨h1, fun h => h2 (by rw [h])⟩
 ·rintro ⟨h1, h2⟩; exact ⟨h1, fun h => h2 (by omega)⟩
theorem avA_snoc {nx : Nat → List Nat} {q a b c : Nat} (h : Av nx q a b) (hc : c ∈ nx b) (hq : c ≠ q) : Av nx q a c := by
 induction h with
 | refl h => exact .step h hc (.refl hq)
 | step h h' _ ih => exact .step h h' (ih hc)
theorem avA_src {nx : Nat → List Nat} {q a b : Nat} (h : Av nx q a b) : a ≠ q := by cases h <;> assumption
theorem wayA_head {nx : Nat → List Int} {a b c : Nat} (h : (b : Int) ∈ nx a) (w : WayG nx b c) : WayG nx a c := by
 induction w with
 | refl => exact .step .refl h
 | step _ hc ih => exact .step ih hc
theorem wayW_av {code : List (Int × Int)} {q s : Nat} (hs : s ≠ q) {b : Nat} : WayG (nxW code (q : Nat)) s b ↔ Av (nxN code) q s b := by
 constructor
 ·intro h
  induction h with
  | refl => exact .refl hs
  | step _ hc ih => exact avA_snoc ih (nxW_iff.1 hc).1 (nxW_iff.1 hc).2
 ·intro h
  have key : ∀ {s b : Nat}, Av (nxN code) q s b → WayG (nxW code (q : Nat)) s b := by
   intro s b h
   induction h with
   | refl _ => exact .refl
   | step h hc t ih => exact wayA_head (nxW_iff.2 ⟨hc, avA_src t⟩) ih
  exact key h
theorem withoutA_at {code : List (Int × Int)} {s q b : Nat} (hs : s < code.length + 1) (hb : b < code.length + 1) : (withoutL code (s : Nat) (q : Nat)).getD b false = true ↔ s ≠ q ∧ WayG (nxW code (q : Nat)) s b := by
 unfold withoutL
 by_cases e : s = q
 ·subst e
  rw [if_pos rfl]
  simp [List.getD_eq_getElem?_getD, List.getElem?_replicate, hb]
 ·rw [if_neg (by omega), reachG_at hb, Int.toNat_natCast]
  exact ⟨fun h => ⟨e, h.2.2⟩, fun h => ⟨by omega, by omega, h.2⟩⟩
theorem reachA_ex {code : List (Int × Int)} {p : Nat} (hp : p < code.length + 1) : (reachL code (p : Nat)).getD code.length false = true ↔ Ex code p := by
 unfold reachL
 rw [reachG_at (by omega), Int.toNat_natCast]
 have m : ∀ a c : Nat, ((c : Nat) : Int) ∈ nextI code (a : Nat) ↔ c ∈ nxN code a := fun a c => by rw [← next_nat, mem_natI]
 constructor
 ·rintro ⟨_, _, w⟩
  unfold Ex
  generalize code.length = x at w
  induction w with
  | refl => exact .refl _
  | step _ hc ih => exact wyA_snoc ih ((m _ _).1 hc)
 ·intro w
  refine ⟨by omega, by omega, ?_⟩
  unfold Ex at w
  clear hp
  generalize code.length = x at w
  induction w with
  | refl => exact .refl
  | step hc _ ih => exact wayA_head ((m _ _).2 hc) ih
theorem dom_pd {code : List (Int × Int)} (h : TreeR code (nrT code)) {q p : Nat} (hp : p < code.length + 1) : ((reachL code (p : Nat)).getD code.length false && !((withoutL code (p : Nat) (q : Nat)).getD code.length false)) = pdB code q p := by
 rw [Bool.eq_iff_iff, Bool.and_eq_true, Bool.not_eq_true', ← Bool.not_eq_true, reachA_ex hp, withoutA_at hp (by omega)]
 unfold pdB
 rw [pB_iff, pd_iff h]
 unfold PD
 constructor
 ·rintro ⟨h1, h2⟩
  exact ⟨h1, fun w => h2 ⟨avA_src w, (wayW_av (avA_src w)).2 w⟩⟩
 ·rintro ⟨h1, h2⟩
  exact ⟨h1, fun w => h2 ((wayW_av w.1).1 w.2)⟩
noncomputable def strictL (code : List (Int × Int)) (p k : Nat) : List Nat := (List.range k).filter fun q => decide (q ≠ p) && pdB code q p
theorem strict_mem {code : List (Int × Int)} {p k q : Nat} : q ∈ strictL code p k ↔ q < k ∧ q ≠ p ∧ pdB code q p = true := by
 unfold strictL
 rw [List.mem_filter, List.mem_range, Bool.and_eq_true, decide_eq_true_eq]
theorem strict_succ {code : List (Int × Int)} {p k : Nat} : strictL code p (k + 1) = if (decide (k ≠ p) && pdB code k p) = true then strictL code p k ++ [k] else strictL code p k := by
 unfold strictL
 rw [List.range_succ, List.filter_append]
 by_cases h : (decide (k ≠ p) && pdB code k p) = true
 ·rw [if_pos h, List.filter_cons_of_pos (by exact h)]; rfl
 ·rw [if_neg h, List.filter_cons_of_neg (by exact h)]; simp
theorem strict_len {code : List (Int × Int)} {p k : Nat} : (strictL code p k).length ≤ k := by
 unfold strictL
 exact Nat.le_trans (List.length_filter_le _ _) (by simp)
theorem chT {code : List (Int × Int)} {q p : Nat} : pdB code q p = true ↔ Ch code.length (nrT code) p q := pB_iff
theorem near_good {code : List (Int × Int)} (h : TreeR code (nrT code)) {p s : Nat} (hp : p < code.length) (hs : s ∈ strictL code p (code.length + 1)) (hg : ∀ q, q ∈ strictL code p (code.length + 1) → pdB code q s = true) : nrT code p = some s := by
 obtain ⟨h1, h2, h3⟩ := strict_mem.1 hs
 have hc := chT.1 h3
 have hex := (pd_iff h).1 hc
 obtain ⟨e, he⟩ := Option.isSome_iff_exists.1 ((h.sm p).2 hex.1)
 obtain ⟨n1, n2, n3⟩ := h.step hex.1 (by omega) he
 have hpe : Ch code.length (nrT code) p e := (pd_iff h).2 ⟨hex.1, n3⟩
 have hes : e ∈ strictL code p (code.length + 1) := strict_mem.2 ⟨ex_lt n2, n1, chT.2 hpe⟩
 have c1 := chT.1 (hg e hes)
 have c2 : Ch code.length (nrT code) e s := by
  rcases (ch_up (by omega) he ((h.sm e).2 n2)).1 hc with w | w
  ·exact absurd w h2
  ·exact w
 rw [he, h.anti c1 c2]
theorem near_is {code : List (Int × Int)} (h : TreeR code (nrT code)) {p e : Nat} (hp : p < code.length) (he : nrT code p = some e) : e ∈ strictL code p (code.length + 1) ∧ ∀ q, q ∈ strictL code p (code.length + 1) → pdB code q e = true := by
 have hex : Ex code p := (h.sm p).1 (by rw [he]; rfl)
 obtain ⟨n1, n2, n3⟩ := h.step hex (by omega) he
 refine ⟨strict_mem.2 ⟨ex_lt n2, n1, chT.2 ((pd_iff h).2 ⟨hex, n3⟩)⟩, fun q hq => ?_⟩
 obtain ⟨h1, h2, h3⟩ := strict_mem.1 hq
 rcases (ch_up (by omega) he ((h.sm e).2 n2)).1 (chT.1 h3) with w | w
 ·exact absurd w h2
 ·exact chT.2 w
theorem rg_ways {code : List (Int × Int)} {b e a : Nat} : Rg (nxN code) b e code.length a ↔ a ≠ code.length ∧ ∃ l, l ∈ nxN code b ∧ l ≠ e ∧ WayG (nxW code (e : Nat)) l a := by
 constructor
 ·intro h
  induction h with
  | first h he hx => exact ⟨hx, _, h, he, .refl⟩
  | step _ hc he hx ih =>
    obtain ⟨_, l, h1, h2, h3⟩ := ih
    exact ⟨hx, l, h1, h2, .step h3 (nxW_iff.2 ⟨hc, he⟩)⟩
 ·rintro ⟨hx, l, h1, h2, h3⟩
  induction h3 with
  | refl => exact .first h1 h2 hx
  | step _ hc ih =>
    obtain ⟨c1, c2⟩ := nxW_iff.1 hc
    exact .step (ih (by have := (nx_lt c1).1; omega)) c1 c2 hx
noncomputable def ofL (code : List (Int × Int)) (b : Nat) : List Nat := (List.range code.length).filter fun a => pB (Reg code b a)
theorem of_mem {code : List (Int × Int)} {b a : Nat} : a ∈ ofL code b ↔ a < code.length ∧ Reg code b a := by
 unfold ofL
 rw [List.mem_filter, List.mem_range, pB_iff]
theorem reg_lt {code : List (Int × Int)} {b a : Nat} (h : Reg code b a) : a < code.length := by
 obtain ⟨_, e, _, h⟩ := h
 cases h with
 | first h _ hx => have := (nx_lt h).2; omega
 | step _ h _ hx => have := (nx_lt h).2; omega
theorem of_nodup {code : List (Int × Int)} {b : Nat} : (ofL code b).Nodup := List.Nodup.sublist (List.filter_sublist) List.nodup_range
noncomputable def inB (code : List (Int × Int)) (b e i a : Nat) : Bool := ((nxN code b).take i).any fun l => (withoutL code (l : Nat) (e : Nat)).getD a false
theorem in_reg {code : List (Int × Int)} {b e a : Nat} (hb : b < code.length) (he : nrT code b = some e) (ha : a < code.length) {i : Nat} (hi : (nxN code b).length ≤ i) : inB code b e i a = pB (Reg code b a) := by
 rw [Bool.eq_iff_iff, pB_iff]
 unfold inB
 rw [List.take_of_length_le hi, List.any_eq_true]
 constructor
 ·rintro ⟨l, h1, h2⟩
  obtain ⟨q1, q2⟩ := (withoutA_at (nx_lt h1).2 (by omega)).1 h2
  exact ⟨hb, e, he, rg_ways.2 ⟨by omega, l, h1, q1, q2⟩⟩
 ·rintro ⟨_, e', he', h⟩
  rw [he] at he'; cases he'
  obtain ⟨_, l, h1, h2, h3⟩ := rg_ways.1 h
  exact ⟨l, h1, (withoutA_at (nx_lt h1).2 (by omega)).2 ⟨h2, h3⟩⟩
end Go.Proofs.Ytggaimcopbjdiaa.Graph
