/- Parts of a list that has no more room. -/
import Derived.Test.YtollibkfagjnaaaFrR
set_option linter.unusedVariables false
set_option linter.unusedSimpArgs false
set_option maxRecDepth 10000
namespace Go.Proofs.Ytollibkfagjnaaa.AM
section
variable {V : Type → Type} [Vec V] {E : Env V} {F F' F0 : Nat → Prop} {ρ ρ' ρ0 : PR} {H H' H0 : AH V} {hp hp' hp0 : PH} {ds ds' : List Nat} {T L : List PV} {Ta La : List Value} {inR : Bool} {p : List Nat} {a b c : ACode} {R : AE → List PV → PH → Prop} {st : PS} {dr : Bool} {ops : List AOper} {l0 : Nat} {Q : List PV → PH → Prop}
/-- What is behind, of a list that has no more room. -/
theorem prg_xlo {b n r lo cnt : Nat} {s lS : Src} {O : List Bool} {md : List Nat} (hs : psev T L s = some (.exv 1 b n)) (hl : psev T L lS = some (.s (.int .i64 ((r : Nat) : Int)))) (hr' : r < n) (hk : PRg E p dr T ops l0 ⟨.sub 1 b r (n - r) :: L, false :: O, hp, md, cnt⟩ Q) : PRg E p dr T (⟨.slice 1 s (some lS) none none, none, lo⟩ :: ops) l0 ⟨L, O, hp, md, cnt⟩ Q := by
  intro F0 ρ0 hp0 H0 F ρ H ds Ta La sn hr hd
  have hev := sev_ok (hd.T.mono hd.fle hd.rle) hd.L
  obtain ⟨w, h1, h2⟩ := hev _ _ hs
  have el := s_of hev hl
  have hxc : xCut (asliceV 1) (sev Ta La) s (some lS) none none = asliceV 1 w (some (.int .i64 ((r : Nat) : Int))) none none := by simp only [xCut, h1, xo, el]
  have key : ∃ u, asliceV 1 w (some (.int .i64 ((r : Nat) : Int))) none none = some u ∧ PRel F ρ H (.sub 1 b r (n - r)) u := by
    cases h2 with
    | fr h => cases h
    | exvz h hn => omega
    | @exv _ _ _ a ce h hn =>
      have hc : (2 * n + 1) / 2 = n := by omega
      have hm : (2 * n + 1) % 2 = 1 := by omega
      refine ⟨.slice (some ⟨a, r, none⟩) (n - r) (2 * (n - r) + 1), ?_, .sub h (.inr (by omega)) (by omega) (by omega)⟩
      have hb : abound (.int .i64 ((r : Nat) : Int)) n = some r := by
        show (if 0 ≤ ((r : Nat) : Int) ∧ ((r : Nat) : Int) ≤ ((n : Nat) : Int) then some (Int.toNat _) else none) = _
        rw [if_pos ⟨by omega, by omega⟩, Int.toNat_natCast]
      unfold asliceV asliceS
      dsimp only [aoptb]
      rw [hc, hb, hm]
      have : ¬ ((none : Option Value).isSome && (none : Option Value).isNone || decide (n < n)) = true := by simp
      rw [if_neg this]
      dsimp only [acut]
      rw [if_neg (by omega)]
      simp [Addr.add, eq_comm]
  obtain ⟨u, k1, k2⟩ := key
  refine prg_does hr hd rfl (does_op u H ?_ ⟨F, ρ, _, hp, .refl, fun _ _ h => h, hr, k2, false, md, fun _ h => h, (fun h => nomatch h), fun _ _ _ _ _ _ _ _ => rfl, fun _ _ _ _ h => h, (fun _ => rfl), hk⟩)
  show withH H (xCut (asliceV 1) (sev Ta La) s (some lS) none none) = _
  rw [hxc, k1]
  rfl
theorem prg_xhi {b n r lo cnt : Nat} {s lS : Src} {O : List Bool} {md : List Nat} (hs : psev T L s = some (.exv 1 b n)) (hl : psev T L lS = some (.s (.int .i64 ((r : Nat) : Int)))) (hr' : r < n) (hk : PRg E p dr T ops l0 ⟨.sub 1 b 0 r :: L, false :: O, hp, md, cnt⟩ Q) : PRg E p dr T (⟨.slice 1 s none (some lS) none, none, lo⟩ :: ops) l0 ⟨L, O, hp, md, cnt⟩ Q := by
  intro F0 ρ0 hp0 H0 F ρ H ds Ta La sn hr hd
  have hev := sev_ok (hd.T.mono hd.fle hd.rle) hd.L
  obtain ⟨w, h1, h2⟩ := hev _ _ hs
  have el := s_of hev hl
  have hxc : xCut (asliceV 1) (sev Ta La) s none (some lS) none = asliceV 1 w none (some (.int .i64 ((r : Nat) : Int))) none := by simp only [xCut, h1, xo, el]
  have key : ∃ u, asliceV 1 w none (some (.int .i64 ((r : Nat) : Int))) none = some u ∧ PRel F ρ H (.sub 1 b 0 r) u := by
    cases h2 with
    | fr h => cases h
    | exvz h hn => omega
    | @exv _ _ _ a ce h hn =>
      have hc : (2 * n + 1) / 2 = n := by omega
      have hm : (2 * n + 1) % 2 = 1 := by omega
      refine ⟨.slice (some ⟨a, 0, none⟩) r (2 * n + 1), ?_, ?_⟩
      · have hb : abound (.int .i64 ((r : Nat) : Int)) n = some r := by
          show (if 0 ≤ ((r : Nat) : Int) ∧ ((r : Nat) : Int) ≤ ((n : Nat) : Int) then some (Int.toNat _) else none) = _
          rw [if_pos ⟨by omega, by omega⟩, Int.toNat_natCast]
        unfold asliceV asliceS
        dsimp only [aoptb]
        rw [hc, hb, hm]
        have : ¬ ((none : Option Value).isSome && (some (Value.int .i64 ((r : Nat) : Int))).isNone || decide (n < n)) = true := by simp
        rw [if_neg this]
        dsimp only [acut]
        rw [if_neg (by omega)]
        simp [Addr.add, eq_comm]
      · exact .sub h (.inr (by omega)) (by omega) (by omega)
  obtain ⟨u, k1, k2⟩ := key
  refine prg_does hr hd rfl (does_op u H ?_ ⟨F, ρ, _, hp, .refl, fun _ _ h => h, hr, k2, false, md, fun _ h => h, (fun h => nomatch h), fun _ _ _ _ _ _ _ _ => rfl, fun _ _ _ _ h => h, (fun _ => rfl), hk⟩)
  show withH H (xCut (asliceV 1) (sev Ta La) s none (some lS) none) = _
  rw [hxc, k1]
  rfl
end
end Go.Proofs.Ytollibkfagjnaaa.AM
