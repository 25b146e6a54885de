/- Code that leaves the heap alone, in draws too; values cut; slices clipped. -/
import Derived.Test.YtggaimcopbjdiaaTabA
set_option linter.unusedVariables false
set_option linter.unusedSimpArgs false
namespace Go.Proofs.Ytggaimcopbjdiaa.AM
section
variable {V : Type → Type} [Vec V] {E : Env V} {F F' F0 : Nat → Prop} {ρ ρ' ρ0 : PR} {H H' H0 : AH V} {hp hp' hp0 : PH} {ds ds' : List Nat} {T L : List PV} {Ta La : List Value} {inR : Bool} {p : List Nat} {a b c : ACode} {R : AE → List PV → PH → Prop} {st : PS} {dr : Bool} {ops : List AOper} {l0 : Nat} {Q : List PV → PH → Prop}
/-- A row of one's own, cut to what it holds. -/
theorem prg_clip {lo b n : Nat} {x h m : Src} {L : List PV} {O : List Bool} {md : List Nat} {cnt : Nat} (hx : psev T L x = some (.vec 1 b n)) (hh : psev T L h = some (.s (.int .i64 ((n : Nat) : Int)))) (hm : psev T L m = some (.s (.int .i64 ((n : Nat) : Int)))) (hk : PRg E p dr T ops l0 ⟨.exv 1 b n :: L, false :: O, hp, md, cnt⟩ Q) : PRg E p dr T (⟨.slice 1 x none (some h) (some m), none, lo⟩ :: ops) l0 ⟨L, O, hp, md, cnt⟩ Q := by
  intro F0 ρ0 hp0 H0 F ρ H ds Ta La sn hr hd
  have hev := sev_ok (hd.T.mono hd.fle hd.rle) hd.L
  obtain ⟨w, h1, h2⟩ := hev _ _ hx
  have eh := s_of hev hh
  have em := s_of hev hm
  have hxc : xCut (asliceV 1) (sev Ta La) x none (some h) (some m) = asliceV 1 w none (some (.int .i64 ((n : Nat) : Int))) (some (.int .i64 ((n : Nat) : Int))) := by simp only [xCut, h1, xo, eh, em]
  have key : ∃ u, asliceV 1 w none (some (.int .i64 ((n : Nat) : Int))) (some (.int .i64 ((n : Nat) : Int))) = some u ∧ PRel F ρ H (.exv 1 b n) u := by
    cases h2 with
    | fr h => cases h
    | vecz hz h0 =>
      subst h0
      exact ⟨.slice none 0 0, rfl, .exvz hz rfl⟩
    | @vec _ _ _ a ce hva hn =>
      rw [cutS (l := 0) (h := n) (m := n) hn (.inl ⟨rfl, rfl⟩) (.inr ⟨_, rfl⟩) (.inr ⟨_, rfl⟩) (Nat.zero_le _) (Nat.le_refl _) hn (fun _ => rfl)]
      refine ⟨.slice (some ⟨a, 0, none⟩) n (2 * n + 1), ?_, .exv hva hn⟩
      simp only [acut, Option.isSome_some, if_true, Nat.sub_zero, Nat.zero_mul, add_none, Nat.add_zero]
      by_cases h0 : n = 0
      · subst h0; simp
      · rw [if_neg h0]
  obtain ⟨u, k1, k2⟩ := key
  refine prg_does hr hd rfl (does_op u H ?_ ⟨F, ρ, .exv 1 b n, hp, .refl, fun _ _ h => h, hr, k2, false, md, fun _ h => h, (fun h => nomatch h), fun _ _ _ _ _ _ _ _ => rfl, fun _ _ _ _ h => h, (fun _ => rfl), hk⟩)
  show withH H (xCut (asliceV 1) (sev Ta La) x none (some h) (some m)) = _
  rw [hxc, k1]
  rfl
end
end Go.Proofs.Ytggaimcopbjdiaa.AM
