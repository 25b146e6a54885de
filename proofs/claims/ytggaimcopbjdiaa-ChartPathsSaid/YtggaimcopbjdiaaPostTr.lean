import Derived.Test.YtggaimcopbjdiaaPostGr
set_option linter.unusedVariables false
set_option linter.unusedSimpArgs false
set_option maxRecDepth 10000
namespace Go.Proofs.Ytggaimcopbjdiaa.Graph
open Go.Proofs.Ytggaimcopbjdiaa.AM Go.Proofs.Ytggaimcopbjdiaa.Post
def tot (n : Nat) (l : List Nat) (nr : Nat → Option Nat) : Nat := ((List.range n).map fun a => match nr a with | some b => ix l b | none => n).sum
theorem sum_le {α : Type} : ∀ {l : List α} {f g : α → Nat}, (∀ a, a ∈ l → f a ≤ g a) → (l.map f).sum ≤ (l.map g).sum
 | [], _, _, _ => Nat.le_refl _
 | a :: l, f, g, h => by
   simp only [List.map_cons, List.sum_cons]
   have := h a (by simp)
   have := sum_le (l := l) (f := f) (g := g) fun b hb => h b (by simp [hb])
   omega
theorem sum_lt {α : Type} : ∀ {l : List α} {f g : α → Nat}, (∀ a, a ∈ l → f a ≤ g a) → (∃ a, a ∈ l ∧ f a < g a) → (l.map f).sum < (l.map g).sum
 | [], _, _, _, h => by obtain ⟨a, h, _⟩ := h; simp at h
 | a :: l, f, g, h, h' => by
   simp only [List.map_cons, List.sum_cons]
   have h1 := h a (by simp)
   have h2 : ∀ b, b ∈ l → f b ≤ g b := fun b hb => h b (by simp [hb])
   obtain ⟨b, hb, hlt⟩ := h'
   rcases List.mem_cons.1 hb with rfl | hb
   ·have := sum_le h2
    omega
   ·have := sum_lt h2 ⟨b, hb, hlt⟩
    omega
theorem tot_upd {n a m : Nat} {l : List Nat} {nr : Nat → Option Nat} (ha : a < n) (h : match nr a with | some b => ix l m < ix l b | none => ix l m < n) : tot n l (upd nr a m) < tot n l nr := by
 unfold tot
 refine sum_lt (fun c hc => ?_) ⟨a, List.mem_range.2 ha, ?_⟩
 ·by_cases e : c = a
  ·subst e
   rw [upd_same]
   revert h
   cases nr c with
   | none => exact fun h => Nat.le_of_lt h
   | some b => exact fun h => Nat.le_of_lt h
  ·rw [upd_ne nr m e]
   exact Nat.le_refl _
 ·rw [upd_same]
  revert h
  cases nr a with
  | none => exact fun h => h
  | some b => exact fun h => h
def BJ (x : Nat) (nr : Nat → Option Nat) (fol : List Nat) : Option Nat → Prop
 | none => ∀ c, c ∈ fol → nr c = none
 | some m => (∃ c, c ∈ fol ∧ (nr c).isSome = true) ∧ (∀ c, c ∈ fol → (nr c).isSome = true → Ch x nr c m) ∧ ∀ q, (∀ c, c ∈ fol → (nr c).isSome = true → Ch x nr c q) → Ch x nr m q
theorem bj_nil (x : Nat) (nr : Nat → Option Nat) : BJ x nr [] none := fun c h => by simp at h
section
variable {x : Nat} {nr : Nat → Option Nat} {fol : List Nat} {best : Option Nat} {c m : Nat}
theorem bj_skip (h : BJ x nr fol best) (hc : nr c = none) : BJ x nr (fol ++ [c]) best := by
 have hs : ∀ d, d ∈ fol ++ [c] → (nr d).isSome = true → d ∈ fol := fun d hd hds => by
  rcases List.mem_append.1 hd with q | q
  ·exact q
  ·have : d = c := by simpa using q
   rw [this, hc] at hds; cases hds
 cases best with
 | none =>
   intro d hd
   rcases List.mem_append.1 hd with q | q
   ·exact h d q
   ·have : d = c := by simpa using q
    rw [this, hc]
 | some m =>
   obtain ⟨⟨d, d1, d2⟩, h1, h2⟩ := h
   exact ⟨⟨d, List.mem_append_left _ d1, d2⟩, fun d hd hds => h1 d (hs d hd hds) hds, fun q hq => h2 q fun d hd hds => hq d (List.mem_append_left _ hd) hds⟩
theorem bj_first (h : BJ x nr fol none) (hc : (nr c).isSome = true) : BJ x nr (fol ++ [c]) (some c) := by
 refine ⟨⟨c, by simp, hc⟩, fun d hd hds => ?_, fun q hq => hq c (by simp) hc⟩
 rcases List.mem_append.1 hd with q | q
 ·rw [h d q] at hds; cases hds
 ·have : d = c := by simpa using q
  subst this; exact .refl hc
theorem bj_meet {b : Nat} (h : BJ x nr fol (some b)) (hc : (nr c).isSome = true) (hm : Meet x nr b c m) : BJ x nr (fol ++ [c]) (some m) := by
 obtain ⟨⟨d, d1, d2⟩, h1, h2⟩ := h
 refine ⟨⟨d, List.mem_append_left _ d1, d2⟩, fun d hd hds => ?_, fun q hq => ?_⟩
 ·rcases List.mem_append.1 hd with q | q
  ·exact (h1 d q hds).trans hm.l
  ·have : d = c := by simpa using q
   subst this; exact hm.r
 ·exact hm.low q (h2 q fun d hd hds => hq d (List.mem_append_left _ hd) hds) (hq c (by simp) hc)
end
structure TreeR (code : List (Int × Int)) (nr : Nat → Option Nat) : Prop where
 ex : nr code.length = some code.length
 sm : ∀ a, (nr a).isSome = true ↔ Ex code a
 ch : ∀ a q, Ex code a → (Ch code.length nr a q ↔ PD code.length (nxN code) a q)
 up : ∃ pl : Nat → Nat, ∀ a b, a ≠ code.length → nr a = Option.some b → pl b < pl a ∧ (nr b).isSome = true
def treeI (code : List (Int × Int)) (nr : Nat → Option Nat) : List Int := (List.range (code.length + 1)).map fun a => if a = code.length then -1 else ofN (nr a)
theorem tree_of {code : List (Int × Int)} {l : List Nat} {nr : Nat → Option Nat} {k : Nat} (od : Ord code.length (nxN code) (ix l) (Ex code) (parent code l)) (rd : Rd (x := code.length) (nx := nxN code) (pl := ix l) (L := Ex code) (p := parent code l) k nr nr) (hk : ∀ a, Ex code a → ix l a < k)
  (fp : ∀ a, Ex code a → a ≠ code.length → ∃ b, nr a = some b ∧ Best (x := code.length) (nx := nxN code) nr a b) : TreeR code nr := by
 have all : ∀ a, Ex code a → (nr a).isSome = true := fun a ha => rd.done a ha (hk a ha)
 refine ⟨rd.ok.ex, fun a => ⟨fun h => ?_, all a⟩, fun a q ha => fix_pd od rd.ok all (fun a b ha hne hb c hc hcl => ?_) ha, ⟨ix l, fun a b hne h => rd.ok.lt a b hne h⟩⟩
 ·obtain ⟨b, e⟩ := Option.isSome_iff_exists.1 h
  exact (rd.ok.inl a b e).1
 ·obtain ⟨b', e, hB⟩ := fp a ha hne
  rw [hb] at e
  cases e
  exact hB.all c hc (all c hcl)
def trailN (l : List (Int × Int)) (a : Int) : List Int := (l.filter fun x => decide (x.1 = a)).map (·.2)
theorem trail_app (l m : List (Int × Int)) (a : Int) : trailN (l ++ m) a = trailN l a ++ trailN m a := by simp [trailN]
theorem trail_map {k a : Int} (l : List Int) : trailN (l.map fun b => (k, b)) a = if k = a then l else [] := by
 unfold trailN
 by_cases h : k = a
 ·rw [if_pos h, List.filter_eq_self.2 (by intro y hy; obtain ⟨b, _, rfl⟩ := List.mem_map.1 hy; simpa using h), List.map_map]
  exact List.map_id _
 ·rw [if_neg h, List.filter_eq_nil_iff.2 (by intro y hy; obtain ⟨b, _, rfl⟩ := List.mem_map.1 hy; simpa using h)]
  rfl
theorem trail_next {code : List (Int × Int)} {a : Nat} : ∀ {k : Nat}, k ≤ code.length → trailN (edgesN code k) (a : Nat) = if a < k then nextL code a else []
 | 0, _ => by simp [edgesN, trailN]
 | k + 1, hk => by
   rw [edgesN_succ, trail_app, trail_next (by omega), trail_map]
   by_cases h : k = a
   ·subst h; simp
   ·rw [if_neg (show ¬ ((k : Nat) : Int) = (a : Nat) by omega), List.append_nil]
    by_cases h2 : a < k
    ·rw [if_pos h2, if_pos (by omega)]
    ·rw [if_neg h2, if_neg (by omega)]
theorem trail_all (code : List (Int × Int)) (a : Nat) : trailN (edgesL code) (a : Nat) = natI (nxN code a) := by
 rw [next_nat]
 unfold edgesL
 rw [trail_next (Nat.le_refl _)]
 unfold nextI
 by_cases h : a < code.length
 ·rw [if_pos h, if_pos ⟨by omega, by omega⟩, Int.toNat_natCast]
 ·rw [if_neg h, if_neg (by omega)]
theorem trail_push {l : List (Int × Int)} {a : Nat} {y : Int} : (fun j : Nat => trailN (l ++ [(((a : Nat) : Int), y)]) (j : Int)) = updR (fun j : Nat => trailN l (j : Int)) a (trailN l (a : Nat) ++ [y]) := by
 funext j
 unfold updR
 rw [trail_app]
 by_cases h : j = a
 ·subst h; rw [if_pos rfl]; simp [trailN]
 ·rw [if_neg h]
  have : ¬ ((a : Nat) : Int) = (j : Int) := by omega
  simp [trailN, this]
theorem trail_len (l : List (Int × Int)) (a : Int) : (trailN l a).length ≤ l.length := by
 unfold trailN
 rw [List.length_map]
 exact List.length_filter_le _ _
end Go.Proofs.Ytggaimcopbjdiaa.Graph
