import Derived.Test.YtggaimcopbjdiaaPN
set_option linter.unusedVariables false
set_option linter.unusedSimpArgs false
namespace Go.Proofs.Ytggaimcopbjdiaa.AM
section
variable {V : Type → Type} [Vec V] {E : Env V} {F F' F0 : Nat → Prop} {ρ ρ' ρ0 : PR} {H H' H0 : AH V} {hp hp' hp0 : PH} {ds ds' : List Nat} {T L : List PV} {Ta La : List Value} {inR : Bool} {p : List Nat} {a b c : ACode} {R : AE → List PV → PH → Prop} {st : PS} {dr : Bool} {ops : List AOper} {l0 : Nat}
theorem prg_mkx {Q : List PV → PH → Prop} {dr : Bool} {ops : List AOper} {l0 n bytes lo cnt : Nat} {O : List Bool} {md : List Nat} {zero : List Value} {lS cS : Src} (hl : pnat (psev T L lS) = some n) (hc : pnat (psev T L cS) = some n) (hb : zero.all oneCell = true) (hq : n * bytes ≤ 281474976710656 ∧ n ≤ 9223372036854775807)
  (hk : PRg E p dr T ops l0 ⟨.exv zero.length hp.length n :: L, false :: O, hp ++ [.vec zero.length n (fun _ => zero.map .s) true], md, cnt⟩ Q) : PRg E p dr T (⟨.mkslice zero bytes lS cS, none, lo⟩ :: ops) l0 ⟨L, O, hp, md, cnt⟩ Q := by
 intro F0 ρ0 hp0 H0 F ρ H ds Ta La sn hr hd
 have hev := sev_ok (hd.T.mono hd.fle hd.rle) hd.L
 obtain ⟨k1, e1⟩ := nat_of hev hl
 obtain ⟨k2, e2⟩ := nat_of hev hc
 have e : pmkslice hp zero bytes (psev T L lS) (psev T L cS) = some (.vec zero.length hp.length n, hp ++ [.vec zero.length n (fun _ => zero.map .s) true], n = n ∧ n * bytes ≤ 281474976710656 ∧ n ≤ 9223372036854775807) := by
  simp only [pmkslice, hl, hc, hb, cond_true, fnat_eq]
 obtain ⟨w, H', ρ', h1, h2, h3, h4⟩ := mkslice_ok hr hev zero bytes lS cS [] _ _ _ e ⟨rfl, hq.1, hq.2⟩
 have hw : w = .slice (some ⟨Vec.size H, 0, none⟩) n (2 * n + 1) := by
  have q1' : (n : Int) * (bytes : Int) ≤ 281474976710656 := by rw [← Int.natCast_mul]; exact Int.ofNat_le.2 hq.1
  simp only [x2, e1, e2, amkslice] at h1
  rw [if_pos ⟨by omega, by omega, q1', by omega⟩] at h1
  simp only [Option.some.injEq, Prod.mk.injEq, Int.toNat_natCast] at h1
  exact h1.1.symm
 have h3' : PRel F ρ' H' (.exv zero.length hp.length n) w := by
  subst hw
  cases h3 with
  | fr h => cases h
  | vec h hn => exact .exv h hn
 refine prg_does hr hd rfl (does_op w H' h1 ⟨F, ρ', _, _, h2.ext, h2.le, h2.rel, h3', false, md, fun _ h => h, (fun h => nomatch h), fun b B a e' q1 q2 q3 q4 => h4 b B a e' q1 q2 (fun x => nomatch x) q4, fun b B q1 q2 q3 => ?_, (fun _ => rfl), hk⟩)
 rw [List.getElem?_append_left (List.getElem?_eq_some_iff.1 q3).1]
 exact q3
end
end Go.Proofs.Ytggaimcopbjdiaa.AM
