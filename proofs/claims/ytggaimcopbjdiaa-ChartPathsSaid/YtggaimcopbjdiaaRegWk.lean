import Derived.Test.YtggaimcopbjdiaaRegAdd
set_option linter.unusedVariables false
set_option linter.unusedSimpArgs false
namespace Go.Proofs.Ytggaimcopbjdiaa.AM
section
variable {V : Type → Type} [Vec V] {E : Env V} {F F' F0 : Nat → Prop} {ρ ρ' ρ0 : PR} {H H' H0 : AH V} {hp hp' hp0 : PH} {ds ds' : List Nat} {T L : List PV} {Ta La : List Value} {inR : Bool} {p : List Nat} {a b c : ACode} {R : AE → List PV → PH → Prop}
def sgMask (d : List Nat) : Nat → Sig → Sig
 | _, [] => []
 | k, x :: l => (bif d.contains k then none else x) :: sgMask d (k + 1) l
theorem sgMask_at {d : List Nat} : ∀ {l : Sig} {k b : Nat} {i : Nat}, k + b ∉ d → l[b]? = some (some i) → (sgMask d k l)[b]? = some (some i)
 | [], k, b, i, _, h => by simp at h
 | x :: l, k, 0, i, hb, h => by
   simp only [List.getElem?_cons_zero, Option.some.injEq] at h
   have : d.contains k = false := by
    rw [← Bool.not_eq_true, List.contains_iff_mem]
    simpa using hb
   simp only [sgMask, this, cond_false, List.getElem?_cons_zero, h]
 | x :: l, k, b + 1, i, hb, h => by
   simp only [List.getElem?_cons_succ] at h
   simp only [sgMask, List.getElem?_cons_succ]
   exact sgMask_at (by rwa [Nat.add_right_comm, Nat.add_assoc] at *) h
def deadAt (d : List Nat) (hp : PH) : Bool := d.all fun i => match hp[i]? with | some .dead => true | _ => false
theorem deadAt_not {d : List Nat} {b : Nat} {B : PB} (h : deadAt d hp = true) (hb : hp[b]? = some B) (hB : B ≠ .dead) : b ∉ d := fun hm => by
 have := List.all_eq_true.1 h b hm
 rw [hb] at this
 cases B <;> simp at this hB
theorem weak_okD {σ : Sig} {fz : List Nat} {T' : List PV} (d : List Nat) (hr : Rel F ρ hp ds H) (hT : PRels F ρ H T Ta) (len : hp'.length = σ.length) (keep : sgKeep p σ = true) (hd : deadAt d hp' = true) (inj : sgInj (sgMask d 0 σ) = true) (vals : VSubs σ fz hp T T') (blks : BSubs σ fz hp 0 hp') : ∃ F' ρ', PExt F ρ ds H F' ρ' ds H ∧ (∀ b x, b ∈ p → ρ b = some x → ρ' b = some x) ∧ Rel F' ρ' hp' ds H ∧ PRels F' ρ' H T' Ta := by
 have hown : ∀ a, Own (sgR σ ρ) a → Own ρ a := by
  rintro a ⟨b, e, h⟩
  unfold sgR at h
  split at h
  ·exact ⟨_, e, h⟩
  ·cases h
  ·cases h
 have hFlive : ∀ a, frzF F ρ hp fz a → ¬ F a → Own ρ a := by
  rintro a (h | ⟨i, B, e, _, _, _, h⟩) hn
  ·exact absurd h hn
  ·exact ⟨i, e, h⟩
 have hnF : ∀ i B a e, hp[i]? = some B → B ≠ .dead → i ∉ fz → ρ i = some (some (a, e)) → ¬ F a → ¬ frzF F ρ hp fz a := by
  rintro i B a e h1 h2 h3 h4 h5 (h | ⟨j, C, e', q1, q2, q3, q4⟩)
  ·exact h5 h
  ·have := hr.inj i j B C a e e' h1 q2 h2 q3 h4 q4
   subst this
   exact h3 q1
 refine ⟨frzF F ρ hp fz, sgR σ ρ, ⟨Nat.le_refl _, fun _ h => .inl h, fun _ _ => rfl, fun a h => ?_, fun _ _ _ _ => rfl, fun a h => .inl (hown a h), fun _ h => .inl h⟩, fun b x hb h => ?_, ⟨?_, ?_, ?_, ?_, ?_, ?_, hr.nd⟩, vsubs_ok hr vals hT⟩
 ·by_cases hF : F a
  ·exact .inl hF
  ·exact .inr (.inl (hFlive a h hF))
 ·simp only [sgR, sgKeep_at keep hb]; exact h
 ·rintro a (h | ⟨i, B, e, _, _, _, h⟩)
  ·exact hr.fsz a h
  ·exact hr.own _ _ _ h
 ·intro b B hb
  have hs := blks.at hb
  rw [Nat.zero_add] at hs
  cases hs with
  | dead => trivial
  | cel h hf hb' hc =>
    obtain ⟨a, e, vs, r1, r2, r3, r4, r5⟩ := hr.blk _ _ hb'
    exact ⟨a, e, vs, by simp only [sgR, h]; exact r1, hnF _ _ a e hb' (by simp) hf r1 r2, r3, r4, vsubs_ok hr hc r5⟩
  | loop h hf hb' hc =>
    obtain ⟨a, e, Ta, r1, r2, r3, r4⟩ := hr.blk _ _ hb'
    exact ⟨a, e, Ta, by simp only [sgR, h]; exact r1, hnF _ _ a e hb' (by simp) hf r1 r2, r3, vsubs_ok hr hc r4⟩
  | vec h hf hb' hn hfull hc =>
    rcases hr.blk _ _ hb' with ⟨q1, q2⟩ | ⟨a, ce, vs, r1, r2, r3, r4, r5, r6, r7, r8, r9, r10⟩
    ·exact .inl ⟨by simp only [sgR, h]; exact q1, by omega⟩
    ·refine .inr ⟨a, ce, vs, by simp only [sgR, h]; exact r1, hnF _ _ a ce hb' (by simp) hf r1 r2, r3, r4, r5, by omega, fun q => ?_, r8, fun i hi => by rw [← hc i hi]; exact r9 i (by omega), fun i j c v hi q1 q2 => (r10 i j c v (by omega) (by rw [hc i hi]; exact q1) q2).mono ⟨fun _ h => .inl h, fun _ _ => rfl⟩⟩
     obtain ⟨x1, x2⟩ := hfull q
     rw [x2]; exact r7 x1
  | nil h => exact .inl ⟨by simp only [sgR, h], rfl⟩
  | veccel h hf hb' hn hl hc =>
    rcases hr.blk _ _ hb' with ⟨q1, q2⟩ | ⟨a, ce, vs, r1, r2, r3, r4, r5, r6, r7, r8, r9, r10⟩
    ·omega
    ·have hce := r7 rfl
     refine ⟨a, ce, vs, by simp only [sgR, h]; exact r1, hnF _ _ a ce hb' (by simp) hf r1 r2, r3, r4, by omega, fun j c v q1 q2 => ?_⟩
     have hj := (List.getElem?_eq_some_iff.1 q1).1
     exact .fr ((r10 j 0 c v (by omega) (by rw [hc j c q1]; rfl) (by simpa using q2)).mono ⟨fun _ h => .inl h, fun _ _ => rfl⟩)
 ·intro b b' B B' a e e' g1 g2 d1 d2 q1 q2
  have live : ∀ b B a e, hp'[b]? = some B → B ≠ .dead → sgR σ ρ b = some (some (a, e)) → ∃ i C, σ[b]? = some (some i) ∧ hp[i]? = some C ∧ C ≠ .dead ∧ ρ i = some (some (a, e)) := by
   intro b B a e h1 h2 h3
   have hs := blks.at h1
   rw [Nat.zero_add] at hs
   cases hs with
   | dead => exact absurd rfl h2
   | cel h hf hb' hc => exact ⟨_, _, h, hb', by simp, by simpa only [sgR, h] using h3⟩
   | loop h hf hb' hc => exact ⟨_, _, h, hb', by simp, by simpa only [sgR, h] using h3⟩
   | vec h hf hb' hn hfull hc => exact ⟨_, _, h, hb', by simp, by simpa only [sgR, h] using h3⟩
   | nil h => simp only [sgR, h] at h3; cases h3
   | veccel h hf hb' hn hl hc => exact ⟨_, _, h, hb', by simp, by simpa only [sgR, h] using h3⟩
  obtain ⟨i, C, x1, x2, x3, x4⟩ := live b B a e g1 d1 q1
  obtain ⟨j, D, y1, y2, y3, y4⟩ := live b' B' a e' g2 d2 q2
  have := hr.inj i j C D a e e' x2 y2 x3 y3 x4 y4
  subst this
  exact sgInj_at inj (sgMask_at (by rw [Nat.zero_add]; exact deadAt_not hd g1 d1) x1) (sgMask_at (by rw [Nat.zero_add]; exact deadAt_not hd g2 d2) y1)
 ·intro b hb
  rw [len] at hb
  simp only [sgR, List.getElem?_eq_none hb]
 ·intro b a e h
  obtain ⟨c, e', h'⟩ := hown a ⟨b, e, h⟩
  exact hr.own _ _ _ h'
 ·intro d hd
  obtain ⟨q1, q2, q3⟩ := hr.dfr d hd
  exact ⟨q1, fun x => q3 (hFlive d x q2), fun x => q3 (hown d x)⟩
theorem p_weakD (σ : Sig) (fz d : List Nat) {T' : List PV} {hp' : PH} (vals : VSubs σ fz hp T T') (blks : BSubs σ fz hp 0 hp') (h : PTri E inR p c T' hp' R) (len : hp'.length = σ.length := by rfl) (keep : sgKeep p σ = true := by rfl) (hd : deadAt d hp' = true := by rfl) (inj : sgInj (sgMask d 0 σ) = true := by rfl) : PTri E inR p c T hp R := by
 intro F ρ H ds Ta hr hT
 obtain ⟨F', ρ', a1, a2, a3, a4⟩ := weak_okD d hr hT len keep hd inj vals blks
 exact (h F' ρ' H ds Ta a3 a4).mono fun r hg => TPost.trans a1 a2 hg
theorem vsubs_of1 {σ : Sig} {fz : List Nat} : ∀ {vs ws : List PV}, VSubs1 σ fz hp vs ws → VSubs σ fz hp vs ws
 | _, _, .nil => .nil
 | _, _, .cons h t => .cons (.one h) (vsubs_of1 t)
theorem vsubs_app {σ : Sig} {fz : List Nat} : ∀ {vs ws us zs : List PV}, VSubs σ fz hp vs ws → VSubs σ fz hp us zs → VSubs σ fz hp (vs ++ us) (ws ++ zs)
 | _, _, _, _, .nil, h => h
 | _, _, _, _, .cons h t, h' => .cons h (vsubs_app t h')
theorem vsubs_s {σ : Sig} {fz : List Nat} : ∀ (vs : List Value), VSubs σ fz hp (vs.map .s) (vs.map .s)
 | [] => .nil
 | v :: vs => .cons (.nlv rfl) (vsubs_s vs)
theorem ren_s (κ : Nat → Nat) : ∀ (vs : List Value), (vs.map PV.s).map (ren1 κ) = vs.map .s
 | [] => rfl
 | v :: vs => by simp only [List.map_cons, ren_s κ vs]; rfl
theorem rok_s : ∀ (vs : List Value), (vs.map PV.s).all rok1 = true
 | [] => rfl
 | v :: vs => by simp only [List.map_cons, List.all_cons, rok_s vs, Bool.and_true]; rfl
def hv (x : Bool) (b n : Nat) : PV := match x with
 | true => .exv 1 b n
 | false => .vec 1 b n
theorem hv_sub {σ : Sig} {fz : List Nat} {x : Bool} {b b' n n' : Nat} (h : σ[b']? = some (some b)) (hn : n = n' := by rfl) : VSub1 σ fz hp (hv x b n) (hv x b' n') := by
 cases x with
 | true => exact .exv h hn
 | false => exact .vec h hn
theorem hv_subr {σ : Sig} {fz : List Nat} {κ : Nat → Nat} {x : Bool} {b b' n : Nat} (h : σ[b']? = some (some (κ b))) : VSub1 σ fz hp (ren1 κ (hv x b n)) (hv x b' n) := by
 cases x with
 | true => exact .exv h rfl
 | false => exact .vec h rfl
theorem hv_rok {x : Bool} {b n : Nat} : rok1 (hv x b n) = true := by cases x <;> rfl
end
end Go.Proofs.Ytggaimcopbjdiaa.AM
