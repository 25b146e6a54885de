/- What leads to an address. -/
import Derived.Test.YtggaimcopbjdiaaGraphJ
set_option linter.unusedVariables false
set_option linter.unusedSimpArgs false
set_option maxRecDepth 10000
namespace Go.Proofs.Ytggaimcopbjdiaa.Graph
open Go.Proofs.Ytggaimcopbjdiaa.AM
/-- What tells all edges of code. -/
def seqF (code : List (Int × Int)) : PV := .fn 64 [] [.fptr 1 1 (fun _ => [encC code]) 0 0]
theorem edges_ok (code : List (Int × Int)) : PFun E 56 [encC code] (valQ (isV (seqF code))) := by
  refine p_fun ?_
  show PTri E false [] _ [encC code, .junk, .junk] _ _
  refine s_run ?_
  refine s_run ?_
  refine p_ret ?_
  refine fin_z [0] rfl ?_
  rintro v rfl
  exact .fn .nil (.cons (.ptrf (by decide) rfl (by omega) rfl (by simp) rfl fun i hi => by
    have : i = 0 := by omega
    subst this; rfl) .nil)
theorem nextL_nodup (code : List (Int × Int)) (a : Nat) : (nextL code a).Nodup := by
  simp only [nextL]
  repeat' split
  all_goals first
    | exact List.nodup_nil
    | (simp only [List.nodup_cons, List.mem_singleton, List.not_mem_nil, not_false_iff, List.nodup_nil, and_true]; try omega)
def leadN (l : List (Int × Int)) (a : Int) : List Int := (l.filter fun x => decide (x.2 = a)).map (·.1)
theorem leadN_app (l m : List (Int × Int)) (a : Int) : leadN (l ++ m) a = leadN l a ++ leadN m a := by simp [leadN]
theorem lead_map {k : Int} {a : Int} : ∀ {l : List Int}, l.Nodup → leadN (l.map fun b => (k, b)) a = if a ∈ l then [k] else []
  | [], _ => by simp [leadN]
  | b :: l, h => by
    have hn := List.nodup_cons.1 h
    have ih := lead_map (k := k) (a := a) hn.2
    have : leadN ((b :: l).map fun b => (k, b)) a = (if b = a then [k] else []) ++ leadN (l.map fun b => (k, b)) a := by
      simp only [leadN, List.map_cons, List.filter_cons]
      by_cases e : b = a
      · simp [e]
      · simp [e]
    rw [this, ih]
    by_cases e : b = a
    · subst e; rw [if_pos rfl, if_neg hn.1, if_pos (by simp)]; rfl
    · rw [if_neg e]
      have : (a ∈ b :: l) ↔ a ∈ l := by simp [Ne.symm e]
      simp only [this, List.nil_append]
theorem lead_ahead {code : List (Int × Int)} {a : Int} {k : Nat} (hk : k ≤ code.length) : leadN (edgesN code k) a = aheadN code a k := by
  induction k with
  | zero => rfl
  | succ k ih =>
    rw [edgesN_succ, leadN_app, ih (by omega), lead_map (nextL_nodup _ _), aheadN_succ, nextI_nat (by omega)]
    split
    · rfl
    · simp
theorem edgesL_len (code : List (Int × Int)) : (edgesL code).length ≤ 2 * code.length := by
  have : ∀ k, (edgesN code k).length ≤ 2 * k := by
    intro k
    induction k with
    | zero => simp [edgesN]
    | succ k ih => rw [edgesN_succ, List.length_append, List.length_map]; have := nextL_len code k; omega
  exact this _
theorem leadN_len (l : List (Int × Int)) (a : Int) : (leadN l a).length ≤ l.length := by
  unfold leadN; rw [List.length_map]; exact List.length_filter_le _ _
end Go.Proofs.Ytggaimcopbjdiaa.Graph
