/- Rules for code that is read from left to right. -/
import Derived.Test.YtdbehmepikhghaaAM26
set_option linter.unusedVariables false
set_option linter.unusedSimpArgs false
namespace Go.Proofs.Ytdbehmepikhghaa.AM
section
variable {V : Type → Type} [Vec V] {E : Env V} {inR : Bool} {T : AT} {H : AH V} {ds : List Nat} {Q : Res V → Prop} {a b c k : ACode}
theorem seq_inv (h : ARuns E (.code inR (.seq a k) T H ds) Q) : ARuns E (.code inR a T H ds) (afterSeq E inR k Q) := by
  obtain ⟨n, r, h1, h2⟩ := h
  cases n with
  | zero => cases h1
  | succ m =>
    replace h1 : sSeq (arun E m) inR k (arun E m (.code inR a T H ds)) = some r := h1
    cases ha : arun E m (.code inR a T H ds) with
    | none => rw [ha] at h1; cases h1
    | some ra =>
      obtain ⟨e, T1, H1, ds1, v1⟩ := ra
      rw [ha] at h1
      refine ⟨m, _, ha, ?_⟩
      cases e
      · exact ⟨m, r, h1, h2⟩
      all_goals (cases h1; exact h2)
theorem afterSeq_mono {Q R : Res V → Prop} {r : Res V} (h : ∀ r, Q r → R r) (hr : afterSeq E inR k Q r) : afterSeq E inR k R r := by
  obtain ⟨e, T1, H1, ds1, v1⟩ := r
  cases e
  · exact ARuns.mono (show ARuns E (.code inR k T1 H1 ds1) Q from hr) h
  all_goals exact h _ hr
theorem seq_assoc (h : ARuns E (.code inR (.seq a (.seq b c)) T H ds) Q) : ARuns E (.code inR (.seq (.seq a b) c) T H ds) Q := by
  refine runs_seq (runs_seq ((seq_inv h).mono ?_))
  rintro ⟨e, T1, H1, ds1, v1⟩ hr
  cases e
  · exact seq_inv (show ARuns E (.code inR (.seq b c) T1 H1 ds1) Q from hr)
  all_goals exact hr
theorem seq_region {ops : List AOper} {back : List (Nat × Src)} (h : AOps E T ops [] H fun L H' => ∃ T', aback T L back T = some T' ∧ ARuns E (.code inR k T' H' ds) Q) : ARuns E (.code inR (.seq (.region ops back) k) T H ds) Q := runs_seq (runs_region h)
theorem seq_draw {ops : List AOper} {back : List (Nat × Src)} (h : ADraws E T ops [H] [] H fun L H' => ∃ T', aback T L back T = some T' ∧ ARuns E (.code inR k T' H' ds) Q) : ARuns E (.code inR (.seq (.draw ops back) k) T H ds) Q := runs_seq (runs_draw h)
theorem seq_cond {s : Src} (t : Bool) (hc : sev T [] s = some (.bool t)) (h : ARuns E (.code inR (.seq (bif t then a else b) k) T H ds) Q) : ARuns E (.code inR (.seq (.cond s a b) k) T H ds) Q := runs_seq (runs_cond t hc (seq_inv h))
theorem seq_block {id : Nat} (h : ARuns E (.code inR b T H ds) (afterBlock id (afterSeq E inR k Q))) : ARuns E (.code inR (.seq (.block id b) k) T H ds) Q := runs_seq (runs_block h)
theorem seq_skip (h : ARuns E (.code inR k T H ds) Q) : ARuns E (.code inR (.seq .skip k) T H ds) Q := runs_seq (runs_skip h)
theorem seq_ret (h : Q ⟨.ret, T, H, ds, undef⟩) : ARuns E (.code inR (.seq .ret k) T H ds) Q := runs_seq (runs_ret h)
theorem seq_exit {id : Nat} (h : Q ⟨.exit id, T, H, ds, undef⟩) : ARuns E (.code inR (.seq (.exit id) k) T H ds) Q := runs_seq (runs_exit h)
/-- A loop in its block: I: what holds at its head, with what still lies ahead. -/
theorem seq_loop {id : Nat} (I : Nat → AT → AH V → List Nat → Prop) (n : Nat) (hi : I n T H ds)
    (hb : ∀ n T H ds, I n T H ds → ARuns E (.code inR b T H ds) fun r => match r.e with | .norm => ∃ j, j < n ∧ I j r.T r.H r.ds | _ => afterBlock id (afterSeq E inR k Q) r) : ARuns E (.code inR (.seq (.block id (.loop b)) k) T H ds) Q :=
  seq_block (runs_loop_measure I hb n T H ds hi)
end
end Go.Proofs.Ytdbehmepikhghaa.AM
