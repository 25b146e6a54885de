/- Lists of one's own in a list. -/
import Derived.Test.YtollibkfagjnaaaRegLev
set_option linter.unusedVariables false
set_option linter.unusedSimpArgs false
namespace Go.Proofs.Ytollibkfagjnaaa.AM
section
variable {V : Type → Type} [Vec V] {E : Env V} {F F' F0 : Nat → Prop} {ρ ρ' ρ0 : PR} {H H' H0 : AH V} {hp hp' hp0 : PH} {ds ds' : List Nat} {T L : List PV} {Ta La : List Value} {inR : Bool} {p : List Nat} {a b c : ACode} {R : AE → List PV → PH → Prop}
theorem prg_mkcel {Q : List PV → PH → Prop} {dr : Bool} {ops : List AOper} {l0 n lo cnt : Nat} {O : List Bool} {md : List Nat} {cs : List Value} {ps : List (Nat × Nat × Src)} {gd : Option (Src × Bool)} {l : List (Nat × Nat × PV)} {c : List PV}
    (hk : PRg E p dr T ops l0 ⟨.vec 1 hp.length n :: L, false :: O, hp ++ [.cel c], md, cnt⟩ Q) (h1 : pparts (psev T L) ps = some l := by rfl) (hf : pfill (cs.map .s) l = some c := by rfl) (b3 : c.all okc = true := by rfl) (hw : pwanted T L gd = some true := by rfl) : PRg E p dr T (⟨.mkarr n cs ps, gd, lo⟩ :: ops) l0 ⟨L, O, hp, md, cnt⟩ Q := by
  intro F0 ρ0 hp0 H0 F ρ H ds Ta La sn hr hd
  have hev := sev_ok (hd.T.mono hd.fle hd.rle) hd.L
  obtain ⟨m, e1, e2⟩ := parts_ok hev h1
  obtain ⟨us, r1, r2, _⟩ := fill_ok e2 (rels_s cs) hf
  have ho : ∀ u, u ∈ us → oneCell u = true := fun u hu => by
    obtain ⟨j, hj, rfl⟩ := List.mem_iff_getElem.1 hu
    have hj' : j < c.length := by rw [r2.len]; exact hj
    exact okc_one (r2.at' j c[j] _ (List.getElem?_eq_getElem hj') (List.getElem?_eq_getElem hj)) (List.all_eq_true.1 b3 _ (List.getElem_mem hj'))
  have st : Step F ρ ds H (ρ.upd hp.length (some (Vec.size H, 2 * n + 1))) (hp ++ [.cel c]) (anew H us) := rel_new hr fun hle hl => ⟨_, _, us, PR.upd_same _ _ _, nf hr, get_anew_same _ _, ho, r2.mono hle hl⟩
  have sb : Stab [] ρ hp H (anew H us) := stab_new hr _ _
  refine prg_does hr hd (wanted_ok hev hw) (does_op (.slice (some ⟨Vec.size H, 0, none⟩) n (2 * n + 1)) (anew H us) ?_ ⟨F, _, .vec 1 hp.length n, _, st.ext, st.le, st.rel, .vec (PR.upd_same _ _ _) (by omega), false, md, fun _ h => h, (fun h => nomatch h), fun b B a e' q1 q2 q3 q4 => sb b B a e' q1 q2 (fun x => nomatch x) q4, fun b B q1 q2 q3 => ?_, (fun _ => rfl), hk⟩)
  · simp only [aexec, xMkarr, e1, r1]
    rw [if_pos (List.all_eq_true.2 ho)]
  · rw [List.getElem?_append_left (List.getElem?_eq_some_iff.1 q3).1]
    exact q3
end
end Go.Proofs.Ytollibkfagjnaaa.AM
