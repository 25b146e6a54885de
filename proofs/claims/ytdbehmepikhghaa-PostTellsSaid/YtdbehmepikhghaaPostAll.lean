/- post.All, walked. -/
import Derived.Test.YtdbehmepikhghaaPostAb
set_option linter.unusedVariables false
set_option linter.unusedSimpArgs false
set_option maxRecDepth 10000
namespace Go.Proofs.Ytdbehmepikhghaa.Graph
open Go.Proofs.Ytdbehmepikhghaa.AM Go.Proofs.Ytdbehmepikhghaa.Post
/-- What post-dominates a node. -/
noncomputable def rowD (code : List (Int × Int)) (p : Nat) : List Bool := (List.range (code.length + 1)).map fun r => pdB code r p
theorem rowD_len (code : List (Int × Int)) (p : Nat) : (rowD code p).length = code.length + 1 := by simp [rowD]
theorem rowD_at {code : List (Int × Int)} {p r : Nat} (hr : r < code.length + 1) : (rowD code p).getD r false = pdB code r p := by
  unfold rowD
  rw [List.getD_eq_getElem?_getD, List.getElem?_map, List.getElem?_range hr]; rfl
theorem rowD_of {code : List (Int × Int)} {p : Nat} {bs : List Bool} (hl : bs.length = code.length + 1) (h : ∀ r, r < code.length + 1 → (bs.getD r false = true ↔ Ch code.length (nrT code) p r)) : bs = rowD code p := by
  refine bool_ext (by rw [rowD_len]; exact hl) fun r hr => ?_
  rw [rowD_at (by omega), h r (by omega)]
  exact pB_iff.symm
structure AlI (code : List (Int × Int)) (p : Nat) (c : Option Nat) (bs : List Bool) : Prop where
  len : bs.length = code.length + 1
  some' : (nrT code p).isSome = true → (∀ d, c = some d → (nrT code d).isSome = true) ∧ ∀ r, r < code.length + 1 → (Ch code.length (nrT code) p r ↔ bs.getD r false = true ∨ ∃ d, c = some d ∧ Ch code.length (nrT code) d r)
  none' : nrT code p = none → c = some p ∧ ∀ r, bs.getD r false = false
theorem al_first {code : List (Int × Int)} {p : Nat} : AlI code p (some p) (List.replicate (code.length + 1) false) :=
  ⟨by simp, fun h => ⟨fun d e => by cases e; exact h, fun r _ => by rw [rep_false]; simp⟩, fun _ => ⟨rfl, fun r => rep_false _ _⟩⟩
theorem al_end {code : List (Int × Int)} {p : Nat} {c : Option Nat} {bs : List Bool} (h : AlI code p c bs) (hc : nrT code p = none ∨ c = none) : bs = rowD code p := by
  refine rowD_of h.len fun r hr => ?_
  cases hn : nrT code p with
  | none =>
    rw [(h.none' hn).2 r]
    exact ⟨fun e => (by cases e), fun c => (by have := c.src; rw [hn] at this; cases this)⟩
  | some b =>
    have hc' : c = none := hc.resolve_left (by rw [hn]; exact fun e => by cases e)
    rw [(h.some' (by rw [hn]; rfl)).2 r hr, hc']
    simp
theorem al_step {code : List (Int × Int)} (hT : TreeR code (nrT code)) {p d : Nat} {bs : List Bool} (h : AlI code p (some d) bs) (hp : (nrT code p).isSome = true) : AlI code p (if d = code.length then none else nrT code d) (bs.set d true) := by
  obtain ⟨pl, hpl⟩ := hT.up
  obtain ⟨h1, h2⟩ := h.some' hp
  have hd := h1 d rfl
  have hdn : d < code.length + 1 := ex_lt ((hT.sm d).1 hd)
  have hl := h.len
  refine ⟨by rw [List.length_set]; exact hl, fun _ => ⟨fun e he => ?_, fun r hr => ?_⟩, fun e => by rw [e] at hp; cases hp⟩
  · by_cases hx : d = code.length
    · rw [if_pos hx] at he; cases he
    · rw [if_neg hx] at he; exact (hpl d e hx he).2
  · rw [h2 r hr, getD_set (by omega)]
    constructor
    · rintro (q | ⟨d', e, c⟩)
      · left; split
        · rfl
        · exact q
      · cases e
        cases c with
        | refl _ => left; rw [if_pos rfl]
        | step hx e t => right; rw [if_neg hx]; exact ⟨_, e, t⟩
    · rintro (q | ⟨d', e, c⟩)
      · by_cases w : r = d
        · right; rw [w]; exact ⟨d, rfl, .refl hd⟩
        · rw [if_neg w] at q; exact .inl q
      · right
        by_cases hx : d = code.length
        · rw [if_pos hx] at e; cases e
        · rw [if_neg hx] at e; exact ⟨d, rfl, .step hx e c⟩
noncomputable def lT (code : List (Int × Int)) (p : Nat) (x5 : PV) : List PV := [i64 (p : Nat), .fptr 1 1 (fun _ => [i64 (code.length + 1 : Nat)]) 0 0, .fptr 1 1 (fun _ => [.frz 1 (code.length + 1) (code.length + 1) (rowI .i64 (treeT code))]) 0 0, .s (.slice none 0 0), .vec 1 0 (code.length + 1), x5, .junk]
theorem allRow_ok {code : List (Int × Int)} (hn : code.length < 1000000) (hT : TreeR code (nrT code)) {p : Nat} (hp : p < code.length + 1) : PFun E 62 [i64 (p : Nat), .fptr 1 1 (fun _ => [i64 (code.length + 1 : Nat)]) 0 0, .fptr 1 1 (fun _ => [.frz 1 (code.length + 1) (code.length + 1) (rowI .i64 (treeT code))]) 0 0] (valQ (isV (encB (rowD code p)))) := by
  obtain ⟨pl, hpl⟩ := hT.up
  refine p_fun ?_
  show PTri E false [] _ [i64 (p : Nat), .fptr 1 1 (fun _ => [i64 (code.length + 1 : Nat)]) 0 0, .fptr 1 1 (fun _ => [.frz 1 (code.length + 1) (code.length + 1) (rowI .i64 (treeT code))]) 0 0, .junk, .junk, .junk, .junk] _ _
  refine s_run ?_
  refine s_run ?_
  refine s_ass (s_run ?_)
  refine s_loop (ι := Option Nat × List Bool) (fun i => AlI code p i.1 i.2) (fun i => abM pl i.1) (fun i => lT code p (i64 (ofN i.1))) (fun i => [.vec 1 (code.length + 1) (rowB i.2) true]) (some p, List.replicate (code.length + 1) false) al_first (σ := [some 0]) (wk _ [] _ _ (vals := ?_) (blks := .cons (bs_vec rfl fun j hj => rowB_rep _ _) .nil)) ?_
  · unfold lT
    repeat' (first | exact VSubs.nil | apply VSubs.cons | exact VSub.one (VSub1.junk _) | exact VSub.nlv rfl | exact VSub.one (VSub1.vec rfl rfl))
  rintro ⟨c, bs⟩ hA
  simp only at hA
  unfold lT
  refine s_ass (s_reg (g_run 1 ?_))
  cases c with
  | none =>
    refine prg_head (v' := .s (.bool false)) rfl ?_
    refine g_end ?_
    refine s_f (s_exit ?_)
    refine s_run ?_
    rw [al_end hA (.inr rfl)]
    refine p_ret (fin_z [0] rfl ?_)
    rintro v rfl
    exact .one (.vecf (.head _) rfl (rowD_len _ _).symm (Nat.le_refl _) (by rw [rowD_len]; exact Nat.le_refl _) fun i hi => rfl)
  | some d =>
    refine prg_head (v' := .s (.bool true)) (by simp [ofN]) ?_
    refine g_run 4 ?_
    rw [treeT_at hp]
    refine g_run 1 ?_
    cases hnr : nrT code p with
    | none =>
      have hpx : p ≠ code.length := fun e => by rw [e, hT.ex] at hnr; cases hnr
      refine prg_head (v' := .s (.bool false)) (by rw [if_neg hpx]; rfl) ?_
      refine g_run 4 ?_
      refine prg_head (v' := i64 (code.length : Nat)) (by unfold i64; congr 2; omega) ?_
      refine g_run 1 ?_
      refine prg_head (v' := .s (.bool false)) (by
        have : ¬ ((p : Nat) : Int) = ((code.length : Nat) : Int) := by omega
        simp [this]) ?_
      refine g_end ?_
      refine s_f (s_exit ?_)
      refine s_run ?_
      rw [al_end hA (.inl hnr)]
      refine p_ret (fin_z [0] rfl ?_)
      rintro v rfl
      exact .one (.vecf (.head _) rfl (rowD_len _ _).symm (Nat.le_refl _) (by rw [rowD_len]; exact Nat.le_refl _) fun i hi => rfl)
    | some b =>
      have hps : (nrT code p).isSome = true := by rw [hnr]; rfl
      have hds := (hA.some' hps).1 d rfl
      have hdn : d < code.length + 1 := ex_lt ((hT.sm d).1 hds)
      have hst := al_step hT hA hps
      have hm : abM pl (if d = code.length then none else nrT code d) < abM pl (some d) := by
        by_cases hx : d = code.length
        · rw [if_pos hx]; exact Nat.succ_pos _
        · rw [if_neg hx]
          cases e : nrT code d with
          | none => exact Nat.succ_pos _
          | some d' => have := (hpl d d' hx e).1; show pl d' + 1 < pl d + 1; omega
      by_cases hpx : p = code.length
      · refine prg_head (v' := .s (.bool false)) (by rw [if_pos hpx]; rfl) ?_
        refine g_run 4 ?_
        refine prg_head (v' := i64 (code.length : Nat)) (by unfold i64; congr 2; omega) ?_
        refine g_run 1 ?_
        refine prg_head (v' := .s (.bool true)) (by rw [hpx]; simp) ?_
        refine g_end ?_
        refine s_t (s_skip (s_block ?_))
        refine e_run ?_
        refine e_reg (g_run 3 ?_)
        rw [show (treeT code).getD d 0 = ofN (if d = code.length then none else nrT code d) from by
          rw [treeT_at hdn]; by_cases e : d = code.length <;> simp [e, ofN]]
        refine g_end ?_
        refine lp_next (if d = code.length then none else nrT code d, bs.set d true) hst (σ := [some 0]) (wk _ [] _ _ (vals := ?_) (blks := .cons (bs_vec rfl fun j hj => ?_) .nil)) hm
        · try dsimp only [lT]
          repeat' (first | exact VSubs.nil | apply VSubs.cons | exact VSub.one (VSub1.junk _) | exact VSub.nlv rfl | exact VSub.one (VSub1.vec rfl rfl))
        · exact row1_set (en := fun b => .s (.bool b)) (d := false) (xs := bs) (c := d) (x := true) _ rfl (by rw [hA.len]; exact hj)
      · refine prg_head (v' := .s (.bool true)) (by rw [if_neg hpx]; simp [ofN]) ?_
        refine g_end ?_
        refine s_t (s_skip (s_block ?_))
        refine e_run ?_
        refine e_reg (g_run 3 ?_)
        rw [show (treeT code).getD d 0 = ofN (if d = code.length then none else nrT code d) from by
          rw [treeT_at hdn]; by_cases e : d = code.length <;> simp [e, ofN]]
        refine g_end ?_
        refine lp_next (if d = code.length then none else nrT code d, bs.set d true) hst (σ := [some 0]) (wk _ [] _ _ (vals := ?_) (blks := .cons (bs_vec rfl fun j hj => ?_) .nil)) hm
        · try dsimp only [lT]
          repeat' (first | exact VSubs.nil | apply VSubs.cons | exact VSub.one (VSub1.junk _) | exact VSub.nlv rfl | exact VSub.one (VSub1.vec rfl rfl))
        · exact row1_set (en := fun b => .s (.bool b)) (d := false) (xs := bs) (c := d) (x := true) _ rfl (by rw [hA.len]; exact hj)
end Go.Proofs.Ytdbehmepikhghaa.Graph
