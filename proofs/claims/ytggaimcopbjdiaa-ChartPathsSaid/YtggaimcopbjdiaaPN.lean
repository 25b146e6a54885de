import Derived.Test.YtggaimcopbjdiaaPM
set_option linter.unusedVariables false
set_option linter.unusedSimpArgs false
namespace Go.Proofs.Ytggaimcopbjdiaa.AM
section
variable {V : Type → Type} [Vec V] {E : Env V} {F F' F0 : Nat → Prop} {ρ ρ' ρ0 : PR} {H H' H0 : AH V} {hp hp' hp0 : PH} {ds ds' : List Nat} {T L : List PV} {Ta La : List Value} {l0 : Nat} {st st' : PS} {sn : List (AH V)} {dr : Bool} {o : AOper} {ops : List AOper} {Q : List PV → PH → Prop} {inR : Bool} {p : List Nat} {a b c : ACode} {R : AE → List PV → PH → Prop}
theorem Rel.live (hr : Rel F ρ hp ds H) {b a e : Nat} {B : PB} (h : hp[b]? = some B) (hne : B ≠ .dead) (he : ρ b = some (some (a, e))) : ¬ F a := by
 have hbo := hr.blk b B h
 cases B with
 | dead => exact absurd rfl hne
 | cel cs =>
   obtain ⟨a', e', vs', q1, q2, _⟩ := hbo
   rw [he] at q1; cases q1; exact q2
 | loop T ps as_ bd st pe =>
   obtain ⟨a', e', vs', q1, q2, _⟩ := hbo
   rw [he] at q1; cases q1; exact q2
 | vec sz n f full =>
   rcases hbo with ⟨q1, _⟩ | ⟨a', ce, vs', q1, q2, _⟩
   ·rw [he] at q1; cases q1
   ·rw [he] at q1; cases q1; exact q2
end
end Go.Proofs.Ytggaimcopbjdiaa.AM
namespace Go.Proofs.Ytggaimcopbjdiaa.AM
section
variable {V : Type → Type} [Vec V] {E : Env V} {F F' F0 : Nat → Prop} {ρ ρ' ρ0 : PR} {H H' H0 : AH V} {hp hp' hp0 : PH} {ds ds' : List Nat} {T L : List PV} {Ta La : List Value} {l0 : Nat} {st st' : PS} {sn : List (AH V)} {dr : Bool} {o : AOper} {ops : List AOper} {Q : List PV → PH → Prop} {inR : Bool} {p : List Nat} {a b c : ACode} {R : AE → List PV → PH → Prop}
theorem weak_at {σ : Sig} {fz : List Nat} {T' : List PV} (hr : Rel F ρ hp ds H) (hT : PRels F ρ H T Ta) (hw : Weak p σ fz T hp T' hp') : PExt F ρ ds H (frzF F ρ hp fz) (sgR σ ρ) ds H ∧ (∀ b x, b ∈ p → ρ b = some x → sgR σ ρ b = some x) ∧ Rel (frzF F ρ hp fz) (sgR σ ρ) hp' ds H ∧ PRels (frzF F ρ hp fz) (sgR σ ρ) H T' Ta := by
 have hown : ∀ a, Own (sgR σ ρ) a → Own ρ a := by
  rintro a ⟨b, e, h⟩
  unfold sgR at h
  split at h
  ·exact ⟨_, e, h⟩
  ·cases h
  ·cases h
 have hFlive : ∀ a, frzF F ρ hp fz a → ¬ F a → Own ρ a := by
  rintro a (h | ⟨i, B, e, _, _, _, h⟩) hn
  ·exact absurd h hn
  ·exact ⟨i, e, h⟩
 have hnF : ∀ i B a e, hp[i]? = some B → B ≠ .dead → i ∉ fz → ρ i = some (some (a, e)) → ¬ F a → ¬ frzF F ρ hp fz a := by
  rintro i B a e h1 h2 h3 h4 h5 (h | ⟨j, C, e', q1, q2, q3, q4⟩)
  ·exact h5 h
  ·have := hr.inj i j B C a e e' h1 q2 h2 q3 h4 q4
   subst this
   exact h3 q1
 refine ⟨⟨Nat.le_refl _, fun _ h => .inl h, fun _ _ => rfl, fun a h => ?_, fun _ _ _ _ => rfl, fun a h => .inl (hown a h), fun _ h => .inl h⟩, fun b x hb h => ?_, ⟨?_, ?_, ?_, ?_, ?_, ?_, hr.nd⟩, vsubs_ok hr hw.vals hT⟩
 ·by_cases hF : F a
  ·exact .inl hF
  ·exact .inr (.inl (hFlive a h hF))
 ·simp only [sgR, sgKeep_at hw.keep hb]; exact h
 ·rintro a (h | ⟨i, B, e, _, _, _, h⟩)
  ·exact hr.fsz a h
  ·exact hr.own _ _ _ h
 ·intro b B hb
  have hs := hw.blks.at hb
  rw [Nat.zero_add] at hs
  cases hs with
  | dead => trivial
  | cel h hf hb' hc =>
    obtain ⟨a, e, vs, r1, r2, r3, r4, r5⟩ := hr.blk _ _ hb'
    exact ⟨a, e, vs, by simp only [sgR, h]; exact r1, hnF _ _ a e hb' (by simp) hf r1 r2, r3, r4, vsubs_ok hr hc r5⟩
  | loop h hf hb' hc =>
    obtain ⟨a, e, Ta, r1, r2, r3, r4⟩ := hr.blk _ _ hb'
    exact ⟨a, e, Ta, by simp only [sgR, h]; exact r1, hnF _ _ a e hb' (by simp) hf r1 r2, r3, vsubs_ok hr hc r4⟩
  | vec h hf hb' hn hfull hc =>
    rcases hr.blk _ _ hb' with ⟨q1, q2⟩ | ⟨a, ce, vs, r1, r2, r3, r4, r5, r6, r7, r8, r9, r10⟩
    ·exact .inl ⟨by simp only [sgR, h]; exact q1, by omega⟩
    ·refine .inr ⟨a, ce, vs, by simp only [sgR, h]; exact r1, hnF _ _ a ce hb' (by simp) hf r1 r2, r3, r4, r5, by omega, fun q => ?_, r8, fun i hi => by rw [← hc i hi]; exact r9 i (by omega), fun i j c v hi q1 q2 => (r10 i j c v (by omega) (by rw [hc i hi]; exact q1) q2).mono ⟨fun _ h => .inl h, fun _ _ => rfl⟩⟩
     obtain ⟨x1, x2⟩ := hfull q
     rw [x2]; exact r7 x1
  | nil h => exact .inl ⟨by simp only [sgR, h], rfl⟩
  | veccel h hf hb' hn hl hc =>
    rcases hr.blk _ _ hb' with ⟨q1, q2⟩ | ⟨a, ce, vs, r1, r2, r3, r4, r5, r6, r7, r8, r9, r10⟩
    ·omega
    ·have hce := r7 rfl
     refine ⟨a, ce, vs, by simp only [sgR, h]; exact r1, hnF _ _ a ce hb' (by simp) hf r1 r2, r3, r4, by omega, fun j c v q1 q2 => ?_⟩
     have hj := (List.getElem?_eq_some_iff.1 q1).1
     exact .fr ((r10 j 0 c v (by omega) (by rw [hc j c q1]; rfl) (by simpa using q2)).mono ⟨fun _ h => .inl h, fun _ _ => rfl⟩)
 ·intro b b' B B' a e e' g1 g2 d1 d2 q1 q2
  have live : ∀ b B a e, hp'[b]? = some B → B ≠ .dead → sgR σ ρ b = some (some (a, e)) → ∃ i C, σ[b]? = some (some i) ∧ hp[i]? = some C ∧ C ≠ .dead ∧ ρ i = some (some (a, e)) := by
   intro b B a e h1 h2 h3
   have hs := hw.blks.at h1
   rw [Nat.zero_add] at hs
   cases hs with
   | dead => exact absurd rfl h2
   | cel h hf hb' hc => exact ⟨_, _, h, hb', by simp, by simpa only [sgR, h] using h3⟩
   | loop h hf hb' hc => exact ⟨_, _, h, hb', by simp, by simpa only [sgR, h] using h3⟩
   | vec h hf hb' hn hfull hc => exact ⟨_, _, h, hb', by simp, by simpa only [sgR, h] using h3⟩
   | nil h => simp only [sgR, h] at h3; cases h3
   | veccel h hf hb' hn hl hc => exact ⟨_, _, h, hb', by simp, by simpa only [sgR, h] using h3⟩
  obtain ⟨i, C, x1, x2, x3, x4⟩ := live b B a e g1 d1 q1
  obtain ⟨j, D, y1, y2, y3, y4⟩ := live b' B' a e' g2 d2 q2
  have := hr.inj i j C D a e e' x2 y2 x3 y3 x4 y4
  subst this
  exact sgInj_at hw.inj x1 y1
 ·intro b hb
  rw [hw.len] at hb
  simp only [sgR, List.getElem?_eq_none hb]
 ·intro b a e h
  obtain ⟨c, e', h'⟩ := hown a ⟨b, e, h⟩
  exact hr.own _ _ _ h'
 ·intro d hd
  obtain ⟨q1, q2, q3⟩ := hr.dfr d hd
  exact ⟨q1, fun x => q3 (hFlive d x q2), fun x => q3 (hown d x)⟩
def ren0 (κ : Nat → Nat) : PV → PV
 | .ptr b o => .ptr (κ b) o
 | .eptr sz b i o => .eptr sz (κ b) i o
 | .vec sz b n => .vec sz (κ b) n
 | .sub sz b i n => .sub sz (κ b) i n
 | .exv sz b n => .exv sz (κ b) n
 | .tbv b n => .tbv (κ b) n
 | .que b i n => .que (κ b) i n
 | .yld b => .yld (κ b)
 | v => v
def ren1 (κ : Nat → Nat) : PV → PV
 | .agg cs => .agg (cs.map (ren0 κ))
 | .fn f a c => .fn f (a.map (ren0 κ)) (c.map (ren0 κ))
 | v => ren0 κ v
def ren2 (κ : Nat → Nat) : PV → PV
 | .tup cs => .tup (cs.map (ren1 κ))
 | v => ren1 κ v
def rok1 : PV → Bool
 | .agg cs => cs.all flat0
 | .fn _ a c => a.all flat0 && c.all flat0
 | .tup _ => false
 | _ => true
def rok2 : PV → Bool
 | .tup cs => cs.all rok1
 | v => rok1 v
def renB (κ : Nat → Nat) : PB → PB
 | .cel cs => .cel (cs.map (ren1 κ))
 | .loop .. => .dead
 | B => B
def rokB : PB → Bool
 | .cel cs => cs.all rok1
 | _ => true
theorem ren0_ok {κ : Nat → Nat} {ρc : PR} (hκ : ∀ i x, ρc i = some x → ρ (κ i) = some x) {v : PV} {w : Value} (h : PRel F ρc H v w) (hv : flat0 v = true) : PRel F ρ H (ren0 κ v) w := by
 cases h with
 | fr h =>
   have : ren0 κ v = v := by cases h <;> rfl
   rw [this]; exact .fr h
 | ptr h => exact .ptr (hκ _ _ h)
 | eptr h => exact .eptr (hκ _ _ h)
 | vec h hn => exact .vec (hκ _ _ h) hn
 | vecz h hn => exact .vecz (hκ _ _ h) hn
 | sub h ho hl hn => exact .sub (hκ _ _ h) ho hl hn
 | exv h hn => exact .exv (hκ _ _ h) hn
 | exvz h hn => exact .exvz (hκ _ _ h) hn
 | tbv h hn => exact .tbv (hκ _ _ h) hn
 | que h => exact .que (hκ _ _ h)
 | subz h hn => exact .subz (hκ _ _ h) hn
 | yld h => exact .yld (hκ _ _ h)
 | agg => cases hv
 | tup => cases hv
 | fn => cases hv
theorem ren_all {κ : Nat → Nat} {ρc : PR} {f : PV → PV} {ok : PV → Bool} (hf : ∀ {v : PV} {w : Value}, PRel F ρc H v w → ok v = true → PRel F ρ H (f v) w) {cs : List PV} {l : List Value} (hl : cs.length = l.length) (h : ∀ (j : Nat) (c : PV) (v : Value), cs[j]? = some c → l[j]? = some v → PRel F ρc H c v) (hv : cs.all ok = true) : (cs.map f).length = l.length ∧ ∀ (j : Nat) (c : PV) (v : Value), (cs.map f)[j]? = some c → l[j]? = some v → PRel F ρ H c v := by
 refine ⟨by simp [hl], fun j c v h1 h2 => ?_⟩
 rw [List.getElem?_map] at h1
 cases hq : cs[j]? with
 | none => rw [hq] at h1; cases h1
 | some u =>
   rw [hq] at h1; cases h1
   exact hf (h j u v hq h2) (List.all_eq_true.1 hv _ (List.mem_of_getElem? hq))
theorem ren1_ok {κ : Nat → Nat} {ρc : PR} (hκ : ∀ i x, ρc i = some x → ρ (κ i) = some x) {v : PV} {w : Value} (h : PRel F ρc H v w) (hv : rok1 v = true) : PRel F ρ H (ren1 κ v) w := by
 cases v with
 | agg cs =>
   obtain ⟨l, rfl, hl⟩ := h.agg_inv
   obtain ⟨q1, q2⟩ := ren_all (κ := κ) (f := ren0 κ) (ok := flat0) (fun h1 h2 => ren0_ok hκ h1 h2) hl.len hl.at' hv
   exact .agg q1 q2
 | tup cs => cases hv
 | fn f a c =>
   simp only [rok1, Bool.and_eq_true] at hv
   cases h with
   | fr h => cases h
   | fn hl h hm h' =>
     obtain ⟨q1, q2⟩ := ren_all (κ := κ) (f := ren0 κ) (ok := flat0) (fun h1 h2 => ren0_ok hκ h1 h2) hl h hv.1
     obtain ⟨q3, q4⟩ := ren_all (κ := κ) (f := ren0 κ) (ok := flat0) (fun h1 h2 => ren0_ok hκ h1 h2) hm h' hv.2
     exact .fn q1 q2 q3 q4
 | _ => exact ren0_ok hκ h rfl
theorem ren2_ok {κ : Nat → Nat} {ρc : PR} (hκ : ∀ i x, ρc i = some x → ρ (κ i) = some x) {v : PV} {w : Value} (h : PRel F ρc H v w) (hv : rok2 v = true) : PRel F ρ H (ren2 κ v) w := by
 cases v with
 | tup cs =>
   obtain ⟨l, rfl, hl⟩ := h.tup_inv
   obtain ⟨q1, q2⟩ := ren_all (κ := κ) (f := ren1 κ) (ok := rok1) (fun h1 h2 => ren1_ok hκ h1 h2) hl.len hl.at' hv
   exact .tup q1 q2
 | _ => exact ren1_ok hκ h hv
theorem ren1s_ok {κ : Nat → Nat} {ρc : PR} (hκ : ∀ i x, ρc i = some x → ρ (κ i) = some x) {cs : List PV} {l : List Value} (h : PRels F ρc H cs l) (hv : cs.all rok1 = true) : PRels F ρ H (cs.map (ren1 κ)) l := by
 obtain ⟨q1, q2⟩ := ren_all (κ := κ) (f := ren1 κ) (ok := rok1) (fun h1 h2 => ren1_ok hκ h1 h2) h.len h.at' hv
 exact ⟨q1, q2⟩
def inv : List Nat → Nat → Option Nat
 | [], _ => none
 | a :: l, j => bif Nat.beq a j then some 0 else match inv l j with | some i => some (i + 1) | none => none
theorem inv_some : ∀ {σ : List Nat} {j i : Nat}, inv σ j = some i → σ[i]? = some j
 | [], _, _, h => by cases h
 | a :: l, j, i, h => by
   simp only [inv] at h
   cases hb : Nat.beq a j with
   | true =>
     rw [hb] at h; cases h
     rw [Nat.eq_of_beq_eq_true hb]; rfl
   | false =>
     rw [hb] at h
     simp only [cond_false] at h
     split at h
     ·next i' e =>
      cases h
      simpa using inv_some e
     ·cases h
theorem inv_none : ∀ {σ : List Nat} {j : Nat}, inv σ j = none → j ∉ σ
 | [], _, _ => by simp
 | a :: l, j, h => by
   simp only [inv] at h
   cases hb : Nat.beq a j with
   | true => rw [hb] at h; cases h
   | false =>
     rw [hb] at h
     simp only [cond_false] at h
     split at h
     ·cases h
     ·next e =>
      rw [List.mem_cons]
      rintro (x | x)
      ·subst x
       have : Nat.beq j j = true := by rw [Nat.beq_eq]
       rw [this] at hb; cases hb
      ·exact inv_none e x
def kap (σ : List Nat) (n i : Nat) : Nat := match σ[i]? with | some j => j | none => n + (i - σ.length)
def putB (σ fz : List Nat) (n : Nat) (hpc : PH) (j : Nat) (B : PB) : PB := match inv σ j with
 | some i => (match hpc[i]? with | some C => renB (kap σ n) C | none => .dead)
 | none => bif fz.contains j then .dead else B
def putL (σ fz : List Nat) (n : Nat) (hpc : PH) : Nat → PH → PH
 | _, [] => (hpc.drop σ.length).map (renB (kap σ n))
 | j, B :: r => putB σ fz n hpc j B :: putL σ fz n hpc (j + 1) r
theorem putL_len (σ fz : List Nat) (n : Nat) (hpc : PH) : ∀ (j : Nat) (l : PH), (putL σ fz n hpc j l).length = l.length + (hpc.length - σ.length)
 | _, [] => by simp [putL]
 | j, B :: r => by simp only [putL, List.length_cons, putL_len σ fz n hpc (j + 1) r]; omega
theorem putL_at (σ fz : List Nat) (n : Nat) (hpc : PH) : ∀ (j : Nat) (l : PH) (b : Nat) (B : PB), (putL σ fz n hpc j l)[b]? = some B → (∃ C, l[b]? = some C ∧ B = putB σ fz n hpc (j + b) C) ∨ (l.length ≤ b ∧ ∃ C, hpc[σ.length + (b - l.length)]? = some C ∧ B = renB (kap σ n) C)
 | j, [], b, B, h => by
   simp only [putL, List.getElem?_map, List.getElem?_drop] at h
   refine .inr ⟨Nat.zero_le _, ?_⟩
   cases hq : hpc[σ.length + b]? with
   | none => rw [hq] at h; cases h
   | some C => rw [hq] at h; cases h; exact ⟨C, rfl, rfl⟩
 | j, B0 :: r, b, B, h => by
   cases b with
   | zero => simp only [putL, List.getElem?_cons_zero, Option.some.injEq] at h; exact .inl ⟨B0, rfl, h.symm⟩
   | succ b =>
     simp only [putL, List.getElem?_cons_succ] at h
     rcases putL_at σ fz n hpc (j + 1) r b B h with ⟨C, h1, h2⟩ | ⟨h1, C, h2, h3⟩
     ·exact .inl ⟨C, by simpa using h1, by rw [h2, Nat.add_right_comm, Nat.add_assoc]⟩
     ·exact .inr ⟨by simp only [List.length_cons]; omega, C, by simp only [List.length_cons]; rw [show b + 1 - (r.length + 1) = b - r.length by omega]; exact h2, h3⟩
def emb (σ fz : List Nat) (hp hpc : PH) : PH := putL σ fz hp.length hpc 0 hp
def liveIn (hp : PH) (σ : List Nat) : Bool := σ.all fun j => match hp[j]? with | some .dead => false | some _ => true | none => false
def sigR (σ : List Nat) (n : Nat) (ρ ρ2 : PR) : PR := fun j => if j < n then (match inv σ j with | some i => ρ2 i | none => ρ j) else ρ2 (σ.length + (j - n))
theorem sg_at {σ : List Nat} {ρ : PR} {i j : Nat} (h : σ[i]? = some j) : sgR (σ.map some) ρ i = ρ j := by
 unfold sgR
 rw [List.getElem?_map, h]; rfl
theorem sg_of {σ : List Nat} {ρ : PR} {i : Nat} {x : Option (Nat × Nat)} (h : sgR (σ.map some) ρ i = some x) : ∃ j, σ[i]? = some j ∧ ρ j = some x := by
 unfold sgR at h
 rw [List.getElem?_map] at h
 cases hq : σ[i]? with
 | none => rw [hq] at h; cases h
 | some j => rw [hq] at h; exact ⟨j, rfl, h⟩
theorem renB_ok {κ : Nat → Nat} {ρc : PR} (hκ : ∀ i x, ρc i = some x → ρ (κ i) = some x) {i j : Nat} {C : PB} (hj : κ i = j) (h : BOk F ρc H i C) (hv : rokB C = true) : BOk F ρ H j (renB κ C) := by
 subst hj
 cases C with
 | dead => trivial
 | loop => trivial
 | cel cs =>
   obtain ⟨a, e, vs, q1, q2, q3, q4, q5⟩ := h
   exact ⟨a, e, vs, hκ _ _ q1, q2, q3, q4, ren1s_ok hκ q5 hv⟩
 | vec sz n f full =>
   rcases h with ⟨q1, q2⟩ | ⟨a, ce, vs, q1, q2⟩
   ·exact .inl ⟨hκ _ _ q1, q2⟩
   ·exact .inr ⟨a, ce, vs, hκ _ _ q1, q2⟩
theorem part_ok {σ fz : List Nat} {args args' : List PV} {hpc hpc' : PH} {F2 : Nat → Prop} {ρ2 : PR} {H2 : AH V} (hr : Rel F ρ hp ds H) (hw : Weak [] (σ.map some) fz args hp args' hpc) (hσ : liveIn hp σ = true)
  (a1 : PExt (frzF F ρ hp fz) (sgR (σ.map some) ρ) [] H F2 ρ2 [] H2) (a2 : ∀ b x, b ∈ List.range σ.length → sgR (σ.map some) ρ b = some x → ρ2 b = some x) (a3 : Rel F2 ρ2 hpc' [] H2) (hb : hpc'.all rokB = true) (hlen : σ.length ≤ hpc'.length) :
  (∀ i x, ρ2 i = some x → sigR σ hp.length ρ ρ2 (kap σ hp.length i) = some x) ∧ PExt F ρ ds H F2 (sigR σ hp.length ρ ρ2) ds H2 ∧ RLe' ρ (sigR σ hp.length ρ ρ2) ∧ Rel F2 (sigR σ hp.length ρ ρ2) (emb σ fz hp hpc') ds H2 ∧
  (∀ b B a e, hp[b]? = some B → B ≠ .dead → b ∉ σ → ρ b = some (some (a, e)) → Vec.get H2 a = Vec.get H a) ∧ (∀ b B, b ∉ σ → b ∉ fz → hp[b]? = some B → (emb σ fz hp hpc')[b]? = some B) := by
 have hlive : ∀ j, j ∈ σ → j < hp.length ∧ ∃ B, hp[j]? = some B ∧ B ≠ .dead := fun j hj => by
  have := List.all_eq_true.1 hσ j hj
  split at this
  ·cases this
  ·next B hne e => exact ⟨(List.getElem?_eq_some_iff.1 e).1, B, e, fun x => hne (x ▸ rfl)⟩
  ·cases this
 have hnd : ∀ i i' j, σ[i]? = some j → σ[i']? = some j → i = i' := fun i i' j h1 h2 => sgInj_at hw.inj (i := j) (by rw [List.getElem?_map, h1]; rfl) (by rw [List.getElem?_map, h2]; rfl)
 have hκ : ∀ i, sigR σ hp.length ρ ρ2 (kap σ hp.length i) = ρ2 i := fun i => by
  unfold kap
  split
  ·next j e =>
   have hj := (hlive j (List.mem_of_getElem? e)).1
   unfold sigR
   rw [if_pos hj]
   split
   ·next i' e' => rw [hnd i' i j (inv_some e') e]
   ·next e' => exact absurd (List.mem_of_getElem? e) (inv_none e')
  ·next e =>
   have := List.getElem?_eq_none_iff.1 e
   unfold sigR
   rw [if_neg (by omega)]
   congr 1; omega
 have hownc : ∀ a, Own (sgR (σ.map some) ρ) a → ∃ j e, j ∈ σ ∧ ρ j = some (some (a, e)) := by
  rintro a ⟨i, e, h⟩
  obtain ⟨j, h1, h2⟩ := sg_of h
  exact ⟨j, e, List.mem_of_getElem? h1, h2⟩
 have hown1 : ∀ a, Own (sgR (σ.map some) ρ) a → Own ρ a := fun a h => by
  obtain ⟨j, e, _, h2⟩ := hownc a h
  exact ⟨j, e, h2⟩
 have hF1 : ∀ a, frzF F ρ hp fz a → F a ∨ Own ρ a := by
  rintro a (h | ⟨i, B, e, _, _, _, h⟩)
  ·exact .inl h
  ·exact .inr ⟨i, e, h⟩
 have hF2 : ∀ a, F2 a → F a ∨ Own ρ a ∨ Vec.size H ≤ a := fun a h => by
  rcases a1.fnew a h with x | x | x
  ·rcases hF1 a x with y | y
   ·exact .inl y
   ·exact .inr (.inl y)
  ·exact .inr (.inl (hown1 a x))
  ·exact .inr (.inr x)
 have hown2 : ∀ a, Own ρ2 a → (∃ j e, j ∈ σ ∧ ρ j = some (some (a, e))) ∨ Vec.size H ≤ a := fun a h => by
  rcases a1.own a h with x | x
  ·exact .inl (hownc a x)
  ·exact .inr x
 have hown3 : ∀ a, Own (sigR σ hp.length ρ ρ2) a → Own ρ a ∨ Vec.size H ≤ a := by
  rintro a ⟨j, e, h⟩
  have lift : ∀ i, ρ2 i = some (some (a, e)) → Own ρ a ∨ Vec.size H ≤ a := fun i h => by
   rcases hown2 a ⟨i, e, h⟩ with ⟨j, e', _, x⟩ | x
   ·exact .inl ⟨j, e', x⟩
   ·exact .inr x
  unfold sigR at h
  split at h
  ·split at h
   ·exact lift _ h
   ·exact .inl ⟨j, e, h⟩
  ·exact lift _ h
 have hrl : RLe' ρ (sigR σ hp.length ρ ρ2) := fun j x h => by
  have hj : j < hp.length := Classical.byContradiction fun hn => by rw [hr.dom j (by omega)] at h; cases h
  unfold sigR
  rw [if_pos hj]
  split
  ·next i e =>
   have h1 := inv_some e
   exact a2 i x (List.mem_range.2 (List.getElem?_eq_some_iff.1 h1).1) (by rw [sg_at h1]; exact h)
  ·exact h
 have hkeep : ∀ a, a < Vec.size H → ¬ Own ρ a → Vec.get H2 a = Vec.get H a := fun a h1 h2 => a1.keep a h1 (fun x => h2 (hown1 a x)) (fun h => by cases h)
 have hge : ∀ b B a e, hp[b]? = some B → B ≠ .dead → b ∉ σ → ρ b = some (some (a, e)) → ¬ Own (sgR (σ.map some) ρ) a := fun b B a e h1 h2 h3 h4 x => by
  obtain ⟨j, e', y1, y2⟩ := hownc a x
  obtain ⟨_, C, z1, z2⟩ := hlive j y1
  have := hr.inj _ _ _ _ _ _ _ h1 z1 h2 z2 h4 y2
  subst this
  exact h3 y1
 have hget : ∀ b B a e, hp[b]? = some B → B ≠ .dead → b ∉ σ → ρ b = some (some (a, e)) → Vec.get H2 a = Vec.get H a := fun b B a e h1 h2 h3 h4 => a1.keep a (hr.own _ _ _ h4) (hge b B a e h1 h2 h3 h4) (fun h => by cases h)
 have hun : ∀ b B, b ∉ σ → b ∉ fz → hp[b]? = some B → (emb σ fz hp hpc')[b]? = some B := fun b B h1 h2 h3 => by
  have hb' : b < (emb σ fz hp hpc').length := by
   unfold emb; rw [putL_len]
   have := (List.getElem?_eq_some_iff.1 h3).1
   omega
  have h4 : (emb σ fz hp hpc')[b]? = some (emb σ fz hp hpc')[b] := List.getElem?_eq_getElem hb'
  rcases putL_at σ fz hp.length hpc' 0 hp b _ h4 with ⟨C, q1, q2⟩ | ⟨q1, _⟩
  ·rw [h3] at q1; cases q1
   rw [h4, q2, Nat.zero_add]
   unfold putB
   split
   ·next i e => exact absurd (List.mem_of_getElem? (inv_some e)) h1
   ·have : fz.contains b = false := by simpa using h2
    rw [this]; rfl
  ·have := (List.getElem?_eq_some_iff.1 h3).1
   omega
 -- where a live block of what is left comes from
 have hcase : ∀ b B, (emb σ fz hp hpc')[b]? = some B → B ≠ .dead → (∃ i C, hpc'[i]? = some C ∧ B = renB (kap σ hp.length) C ∧ kap σ hp.length i = b ∧ C ≠ .dead) ∨ (b ∉ σ ∧ b ∉ fz ∧ hp[b]? = some B ∧ sigR σ hp.length ρ ρ2 b = ρ b) := fun b B h hne => by
  rcases putL_at σ fz hp.length hpc' 0 hp b B h with ⟨C, q1, q2⟩ | ⟨q1, C, q2, q3⟩
  ·rw [Nat.zero_add] at q2
   have hbl := (List.getElem?_eq_some_iff.1 q1).1
   unfold putB at q2
   split at q2
   ·next i e =>
    split at q2
    ·next D e' => exact .inl ⟨i, D, e', q2, by unfold kap; rw [inv_some e], fun x => hne (by rw [q2, x]; rfl)⟩
    ·exact absurd q2 hne
   ·next e =>
    cases hc : fz.contains b with
    | true => rw [hc] at q2; exact absurd q2 hne
    | false =>
      rw [hc] at q2
      simp only [cond_false] at q2
      exact .inr ⟨inv_none e, by simpa using hc, by rw [q2]; exact q1, by unfold sigR; rw [if_pos hbl, e]⟩
  ·refine .inl ⟨_, C, q2, q3, ?_, fun x => hne (by rw [q3, x]; rfl)⟩
   unfold kap
   rw [List.getElem?_eq_none (by omega)]
   show hp.length + (σ.length + (b - hp.length) - σ.length) = b
   omega
 refine ⟨fun i x h => (hκ i).trans h, ⟨a1.size, fun a h => a1.fmono a (.inl h), fun a h => a1.fget a (.inl h), hF2, fun a h1 h2 _ => hkeep a h1 h2, hown3, fun d h => .inl h⟩, hrl, ⟨a3.fsz, ?_, ?_, ?_, ?_, ?_, hr.nd⟩, hget, hun⟩
 ·intro b B h
  by_cases hne : B = .dead
  ·subst hne; trivial
  rcases hcase b B h hne with ⟨i, C, q1, q2, q3, _⟩ | ⟨q1, q2, q3, q4⟩
  ·rw [q2]
   exact renB_ok (fun i x h => (hκ i).trans h) q3 (a3.blk i C q1) (List.all_eq_true.1 hb C (List.mem_of_getElem? q1))
  ·refine (hr.blk b B q3).mono' ⟨fun a h => a1.fmono a (.inl h), fun a h => a1.fget a (.inl h)⟩ hrl (fun x hx => by rw [q4]; exact hx) fun a e hne' he => ⟨fun x => ?_, hget b B a e q3 hne' q1 he⟩
   rcases a1.fnew a x with y | y | y
   ·rcases y with y | ⟨i, D, e', z1, z2, z3, z4⟩
    ·exact hr.live q3 hne' he y
    ·have := hr.inj _ _ _ _ _ _ _ q3 z2 hne' z3 he z4
     subst this
     exact q2 z1
   ·exact hge b B a e q3 hne' q1 he y
   ·have := hr.own _ _ _ he
    omega
 ·intro b b' B B' a e e' g1 g2 d1 d2 q1 q2
  have cross : ∀ i C b B e e', hpc'[i]? = some C → ρ2 i = some (some (a, e)) → b ∉ σ → hp[b]? = some B → B ≠ .dead → ρ b = some (some (a, e')) → False := fun i C b B e e' h1 h2 h3 h4 h5 h6 => by
   rcases hown2 a ⟨i, e, h2⟩ with ⟨j, e'', x1, x2⟩ | x
   ·obtain ⟨_, D, z1, z2⟩ := hlive j x1
    have := hr.inj _ _ _ _ _ _ _ h4 z1 h5 z2 h6 x2
    subst this
    exact h3 x1
   ·have := hr.own _ _ _ h6
    omega
  rcases hcase b B g1 d1 with ⟨i, C, x1, x2, x3, x4⟩ | ⟨x1, x2, x3, x4⟩
  ·rw [← x3, hκ] at q1
   rcases hcase b' B' g2 d2 with ⟨i', C', y1, y2, y3, y4⟩ | ⟨y1, y2, y3, y4⟩
   ·rw [← y3, hκ] at q2
    rw [← x3, ← y3, a3.inj _ _ _ _ _ _ _ x1 y1 x4 y4 q1 q2]
   ·rw [y4] at q2
    exact (cross i C b' B' e e' x1 q1 y1 y3 d2 q2).elim
  ·rw [x4] at q1
   rcases hcase b' B' g2 d2 with ⟨i', C', y1, y2, y3, y4⟩ | ⟨y1, y2, y3, y4⟩
   ·rw [← y3, hκ] at q2
    exact (cross i' C' b B e' e y1 q2 x1 x3 d1 q1).elim
   ·rw [y4] at q2
    exact hr.inj _ _ _ _ _ _ _ x3 y3 d1 d2 q1 q2
 ·intro b h
  unfold emb at h
  rw [putL_len] at h
  unfold sigR
  rw [if_neg (by omega)]
  exact a3.dom _ (by omega)
 ·intro b a e h
  rcases hown3 a ⟨b, e, h⟩ with ⟨j, e', x⟩ | x
  ·exact Nat.lt_of_lt_of_le (hr.own _ _ _ x) a1.size
  ·unfold sigR at h
   split at h
   ·split at h
    ·exact a3.own _ _ _ h
    ·exact Nat.lt_of_lt_of_le (hr.own _ _ _ h) a1.size
   ·exact a3.own _ _ _ h
 ·intro d hd
  obtain ⟨q1, q2, q3⟩ := hr.dfr d hd
  have hdl := Vec.get_lt _ _ _ q1
  refine ⟨(hkeep d hdl q3).trans q1, fun x => ?_, fun x => ?_⟩
  ·rcases hF2 d x with y | y | y
   ·exact q2 y
   ·exact q3 y
   ·omega
  ·rcases hown3 d x with y | y
   ·exact q3 y
   ·omega
theorem prg_scall {fs : Src} {args : List Src} {gd : Option (Src × Bool)} {lo : Nat} {g : FuncId} {first cap vs args' : List PV} {hpc : PH} {Qf : PV → PH → Prop} (σ fz : List Nat) (h1 : psev T st.L fs = some (.fn g first cap)) (h2 : pevs (psev T st.L) args = some vs) (hg : pwanted T st.L gd = some true)
  (hw : Weak [] (σ.map some) fz (first ++ vs ++ cap) st.hp args' hpc) (hσ : liveIn st.hp σ = true)
  (hc : PCall E (List.range σ.length) g args' hpc Qf) (hk : ∀ v hpc', Qf v hpc' → rok2 v = true ∧ hpc'.all rokB = true ∧ σ.length ≤ hpc'.length ∧ PRg E p dr T ops l0 ⟨ren2 (kap σ st.hp.length) v :: st.L, false :: st.O, emb σ fz st.hp hpc', σ ++ fz ++ st.md, st.cnt + 1⟩ Q) : PRg E p dr T (⟨.call fs args, gd, lo⟩ :: ops) l0 st Q := by
 intro F0 ρ0 hp0 H0 F ρ H ds Ta La sn hr hd
 have hev := sev_ok (hd.T.mono hd.fle hd.rle) hd.L
 obtain ⟨fw, f1, f2⟩ := hev _ _ h1
 obtain ⟨ws, w1, w2⟩ := evs_ok hev h2
 cases f2 with
 | fr h => cases h
 | @fn _ _ _ lf lc hl hlr hm hmr =>
 refine prg_does hr hd (wanted_ok hev hg) (does_call f1 w1 ?_)
 have hargs : PRels F ρ H (first ++ vs ++ cap) (lf ++ ws ++ lc) := (PRels.append (PRels.append ⟨hl, hlr⟩ w2) ⟨hm, hmr⟩)
 have hr0 : Rel F ρ st.hp [] H := ⟨hr.fsz, hr.blk, hr.inj, hr.dom, hr.own, (fun d h => nomatch h), List.nodup_nil⟩
 obtain ⟨_, _, b3, b4⟩ := weak_at hr0 hargs hw
 refine (hc _ _ H _ b3 b4).mono fun r hg => ?_
 obtain ⟨F2, ρ2, hpc', v, a1, a2, a3, a4, a5⟩ := hg
 obtain ⟨k1, k2, k3, k4⟩ := hk v hpc' a5
 obtain ⟨c1, c2, c3, c4, c5, c6⟩ := part_ok hr hw hσ a1 a2 a3 k2 k3
 exact ⟨F2, _, _, _, c2, c3, c4, ren2_ok c1 a4 k1, false, σ ++ fz ++ st.md, fun m hm => List.mem_append_right _ hm, (fun h => nomatch h), fun b B a e q1 q2 q3 q4 => c5 b B a e q1 q2 (fun x => q3 (List.mem_append_left _ (List.mem_append_left _ x))) q4, fun b B _ q2 q3 => c6 b B (fun x => q2 (List.mem_append_left _ (List.mem_append_left _ x))) (fun x => q2 (List.mem_append_left _ (List.mem_append_right _ x))) q3, (fun _ => rfl), k4⟩
theorem g_scall {fs : Src} {args : List Src} {gd : Option (Src × Bool)} {lo : Nat} {g : FuncId} {first cap vs args' : List PV} {hpc : PH} {Qf : PV → PH → Prop} (σ fz : List Nat) (hc : PCall E (List.range σ.length) g args' hpc Qf) (hw : Weak [] (σ.map some) fz (first ++ vs ++ cap) st.hp args' hpc)
  (hk : ∀ v hpc', Qf v hpc' → rok2 v = true ∧ hpc'.all rokB = true ∧ σ.length ≤ hpc'.length ∧ PRg E p dr T ops l0 ⟨ren2 (kap σ st.hp.length) v :: st.L, false :: st.O, emb σ fz st.hp hpc', σ ++ fz ++ st.md, st.cnt + 1⟩ Q)
  (h1 : psev T st.L fs = some (.fn g first cap) := by rfl) (h2 : pevs (psev T st.L) args = some vs := by rfl) (hσ : liveIn st.hp σ = true := by rfl) (hg : pwanted T st.L gd = some true := by rfl) : PRg E p dr T (⟨.call fs args, gd, lo⟩ :: ops) l0 st Q := prg_scall σ fz h1 h2 hg hw hσ hc hk
end
end Go.Proofs.Ytggaimcopbjdiaa.AM
namespace Go.Proofs.Ytggaimcopbjdiaa.AM
section
variable {V : Type → Type} [Vec V] {E : Env V} {F F' F0 : Nat → Prop} {ρ ρ' ρ0 : PR} {H H' H0 : AH V} {hp hp' hp0 : PH} {ds ds' : List Nat} {T L : List PV} {Ta La : List Value} {l0 : Nat} {st st' : PS} {sn : List (AH V)} {o : AOper} {ops : List AOper} {Q : List PV → PH → Prop} {inR : Bool} {p : List Nat} {a b c : ACode} {R : AE → List PV → PH → Prop} {X : PR → AH V → Prop}
end
end Go.Proofs.Ytggaimcopbjdiaa.AM
namespace Go.Proofs.Ytggaimcopbjdiaa.AM
section
variable {V : Type → Type} [Vec V] {E : Env V} {F F' F0 : Nat → Prop} {ρ ρ' ρ0 : PR} {H H' H0 : AH V} {hp hp' hp0 : PH} {ds ds' : List Nat} {T L : List PV} {Ta La : List Value} {l0 : Nat} {st st' : PS} {sn : List (AH V)} {dr : Bool} {o : AOper} {ops : List AOper} {Q : List PV → PH → Prop} {inR : Bool} {p : List Nat} {a b c : ACode} {R : AE → List PV → PH → Prop}
def TabIn (hp : PH) (bk n : Nat) (rows : Nat → List Int) (S : Nat → Prop) : Prop :=
 ∃ cs : List PV, hp[bk]? = some (.cel cs) ∧ cs.length = n ∧ ∃ ptr : Nat → Nat,
  (∀ i, i < n → (rows i = [] ∧ cs[i]? = some (.s (.slice none 0 0))) ∨ (rows i ≠ [] ∧ cs[i]? = some (.vec 1 (ptr i) (rows i).length) ∧ S (ptr i) ∧ ∃ f, hp[ptr i]? = some (.vec 1 (rows i).length f true) ∧ ∀ j, j < (rows i).length → f j = rowI .i64 (rows i) j)) ∧
  ∀ i j, i < n → j < n → rows i ≠ [] → rows j ≠ [] → ptr i = ptr j → i = j
theorem TabIn.start {hp : PH} {bk n : Nat} {S : Nat → Prop} (h : hp[bk]? = some (.cel (List.replicate n (.s (.slice none 0 0))))) : TabIn hp bk n (fun _ => []) S :=
 ⟨_, h, by simp, fun _ => 0, fun i hi => .inl ⟨rfl, by rw [List.getElem?_replicate, if_pos hi]⟩, fun i j _ _ h => absurd rfl h⟩
theorem TabIn.keep {hp hp' : PH} {bk n : Nat} {rows : Nat → List Int} {S S' : Nat → Prop} (h : TabIn hp bk n rows S) (hb : hp'[bk]? = hp[bk]?) (hk : ∀ j, S j → j < hp.length → hp'[j]? = hp[j]?) (hS : ∀ j, S j → S' j) : TabIn hp' bk n rows S' := by
 obtain ⟨cs, h1, h2, ptr, h3, h4⟩ := h
 refine ⟨cs, hb.trans h1, h2, ptr, fun i hi => ?_, h4⟩
 rcases h3 i hi with h | ⟨q1, q2, q3, f, q4, q5⟩
 ·exact .inl h
 ·exact .inr ⟨q1, q2, hS _ q3, f, (hk _ q3 (List.getElem?_eq_some_iff.1 q4).1).trans q4, q5⟩
theorem TabIn.bound {hp : PH} {bk n : Nat} {rows : Nat → List Int} {S : Nat → Prop} (h : TabIn hp bk n rows S) : TabIn hp bk n rows fun j => S j ∧ j < hp.length := by
 obtain ⟨cs, h1, h2, ptr, h3, h4⟩ := h
 refine ⟨cs, h1, h2, ptr, fun i hi => ?_, h4⟩
 rcases h3 i hi with h | ⟨q1, q2, q3, f, q4, q5⟩
 ·exact .inl h
 ·exact .inr ⟨q1, q2, ⟨q3, (List.getElem?_eq_some_iff.1 q4).1⟩, f, q4, q5⟩
theorem TabIn.at {hp : PH} {bk n : Nat} {rows : Nat → List Int} {lo : Nat} (h : TabIn hp bk n rows (lo ≤ ·)) : RowsAt hp bk n rows lo := h
theorem TabIn.frz {hp : PH} {bk n : Nat} {rows : Nat → List Int} {S : Nat → Prop} (h : TabIn hp bk n rows S) : ∃ fz : List Nat, bk ∈ fz ∧ (∀ b, b ∈ fz → b = bk ∨ S b) ∧ ∀ σ fz', (∀ b, b ∈ fz → b ∈ fz') → VSub1 σ fz' hp (.vec 1 bk n) (.frz 1 n n fun i => [encI (rows i)]) := by
 obtain ⟨cs, h1, h2, ptr, h3, h4⟩ := h
 refine ⟨bk :: (List.range n).map fun i => if rows i = [] then bk else ptr i, List.mem_cons_self, fun b hb => ?_, fun σ fz' hsub => ?_⟩
 ·rcases List.mem_cons.1 hb with h | h
  ·exact .inl h
  ·obtain ⟨i, hi, rfl⟩ := List.mem_map.1 h
   have hi := List.mem_range.1 hi
   by_cases hn : rows i = []
   ·rw [if_pos hn]; exact .inl rfl
   ·rw [if_neg hn]
    rcases h3 i hi with ⟨q, _⟩ | ⟨_, _, q, _⟩
    ·exact absurd q hn
    ·exact .inr q
 ·refine .vecc (hsub _ List.mem_cons_self) h1 (by omega) rfl (fun i hi => rfl) fun i hi => ?_
  rcases h3 i hi with ⟨q1, q2⟩ | ⟨q1, q2, q3, f, q4, q5⟩
  ·rw [List.getD_eq_getElem?_getD, q2, q1]
   exact .nilf
  ·rw [List.getD_eq_getElem?_getD, q2]
   exact .vecf (hsub _ (List.mem_cons_of_mem _ (List.mem_map.2 ⟨i, List.mem_range.2 hi, by rw [if_neg q1]⟩))) q4 rfl (Nat.le_refl _) (Nat.le_refl _) q5
theorem TabIn.push {hp hp2 : PH} {bk n i l' : Nat} {S : Nat → Prop} {x : Int} {rows : Nat → List Int} {cs : List PV} {ptr : Nat → Nat} {g : Nat → List PV} (hcs : cs.length = n) (hi : i < n)
  (hrow : ∀ i, i < n → (rows i = [] ∧ cs[i]? = some (.s (.slice none 0 0))) ∨ (rows i ≠ [] ∧ cs[i]? = some (.vec 1 (ptr i) (rows i).length) ∧ S (ptr i) ∧ ∃ f, hp[ptr i]? = some (.vec 1 (rows i).length f true) ∧ ∀ j, j < (rows i).length → f j = rowI .i64 (rows i) j))
  (hinj : ∀ i j, i < n → j < n → rows i ≠ [] → rows j ≠ [] → ptr i = ptr j → i = j) (hb : bk < hp2.length) (hbl : bk < hp.length) (hbS : ¬ S bk) (hl : hp.length ≤ l')
  (hnew : hp2[l']? = some (.vec 1 ((rows i).length + 1) g true)) (hg : ∀ j, j < (rows i).length + 1 → g j = rowI .i64 (rows i ++ [x]) j) (hold : ∀ j, j < n → j ≠ i → rows j ≠ [] → hp2[ptr j]? = hp[ptr j]?) :
  TabIn (hp2.set bk (.cel (cs.set i (.vec 1 l' ((rows i).length + 1))))) bk n (updR rows i (rows i ++ [x])) fun j => S j ∨ hp.length ≤ j := by
 have hne : updR rows i (rows i ++ [x]) i ≠ [] := by simp [updR]
 have hu : ∀ j, j ≠ i → updR rows i (rows i ++ [x]) j = rows j := fun j h => by simp [updR, h]
 have hs : updR rows i (rows i ++ [x]) i = rows i ++ [x] := by simp [updR]
 have hpl : ∀ j, j < n → rows j ≠ [] → ptr j < hp.length := fun j hj hn => by
  rcases hrow j hj with ⟨h, _⟩ | ⟨_, _, _, f, h, _⟩
  ·exact absurd h hn
  ·exact (List.getElem?_eq_some_iff.1 h).1
 refine ⟨_, List.getElem?_set_self hb, by simpa using hcs, fun j => if j = i then l' else ptr j, fun j hj => ?_, fun a b ha hb na nb e => ?_⟩
 ·by_cases h : j = i
  ·subst h
   rw [hs]
   dsimp only
   refine .inr ⟨by simp, ?_, ?_, g, ?_, ?_⟩
   ·rw [List.getElem?_set_self (by omega), if_pos rfl, List.length_append, List.length_singleton]
   ·rw [if_pos rfl]; exact .inr hl
   ·rw [if_pos rfl, List.getElem?_set_ne (by omega), hnew, List.length_append, List.length_singleton]
   ·intro k hk
    rw [List.length_append, List.length_singleton] at hk
    exact hg k hk
  ·rw [hu j h]
   simp only [if_neg h]
   rw [List.getElem?_set_ne (Ne.symm h)]
   rcases hrow j hj with q | ⟨q1, q2, q3, f, q4, q5⟩
   ·exact .inl q
   ·refine .inr ⟨q1, q2, .inl q3, f, ?_, q5⟩
    rw [List.getElem?_set_ne (show bk ≠ ptr j from fun e => hbS (by rw [e]; exact q3)), hold j hj h q1]
    exact q4
 ·dsimp only at e
  by_cases h1 : a = i
  ·by_cases h2 : b = i
   ·rw [h1, h2]
   ·rw [if_pos h1, if_neg h2] at e
    rw [hu b h2] at nb
    have := hpl b hb nb
    omega
  ·rw [hu a h1] at na
   by_cases h2 : b = i
   ·rw [if_neg h1, if_pos h2] at e
    have := hpl a ha na
    omega
   ·rw [if_neg h1, if_neg h2] at e
    rw [hu b h2] at nb
    exact hinj a b ha hb na nb e
theorem d_vvpush2 {t4 t5 t6 kb bk n i : Nat} {x : Int} {rows : Nat → List Int} {S : Nat → Prop} (h4 : T[t4]? = some (.ptr kb 0)) (h5 : T[t5]? = some (.s (.int .i64 x))) (h6 : T[t6]? = some (.s (.int .i64 (i : Nat)))) (hi : i < n) (hkb : hp[kb]? = some (.cel [.vec 1 bk n])) (hr : TabIn hp bk n rows S) (hne : kb ≠ bk) (hl1 : ¬ S kb) (hl2 : ¬ S bk) (hlen : ((rows i).length + 1) * 8 ≤ room)
  (hR : ∀ hp', hp.length ≤ hp'.length → (∀ j, j < hp.length → ¬ S j → j ≠ bk → hp'[j]? = hp[j]?) → TabIn hp' bk n (updR rows i (rows i ++ [x])) (fun j => S j ∨ hp.length ≤ j) → R .norm T hp') :
  PTri E inR p (.draw [⟨.load none (.tmp t4), none, 0⟩, ⟨.iaddr 1 (.loc 0) (.tmp t6), none, 0⟩, ⟨.load none (.loc 0), none, 0⟩, ⟨.mkarr 1 [(.int .i64 0)] [(0, 1, (.tmp t5))], none, 0⟩, ⟨.append false 1 8 (.loc 1) (.loc 0), none, 0⟩, ⟨.load none (.tmp t4), none, 0⟩, ⟨.iaddr 1 (.loc 0) (.tmp t6), none, 1⟩, ⟨.store 1 (.loc 0) (.loc 2), none, 1⟩] []) T hp R := by
 obtain ⟨cs, hbk, hcs, ptr, hrow, hinj⟩ := hr
 have hkl := (List.getElem?_eq_some_iff.1 hkb).1
 have hbl := (List.getElem?_eq_some_iff.1 hbk).1
 have e4 : ∀ L, psev T L (.tmp t4) = some (.ptr kb 0) := fun _ => h4
 have e5 : ∀ L, psev T L (.tmp t5) = some (.s (.int .i64 x)) := fun _ => h5
 have e6 : ∀ L, psev T L (.tmp t6) = some (.s (.int .i64 (i : Nat))) := fun _ => h6
 have epn : pnat (some (.s (.int .i64 ((i : Nat) : Int)))) = some i := rfl
 obtain ⟨g1, hg1⟩ : ∃ g : Nat → List PV, (fun j => ([PV.s (.int .i64 x)].drop (j * 1)).take 1) = g := ⟨_, rfl⟩
 -- what the store and the end come to
 have fin : ∀ {L : List PV} {O : List Bool} {md : List Nat} {hp2 : PH} {l' k' c : Nat} {u w : PV}, hp2[bk]? = some (.cel cs) → hp2[kb]? = some (.cel [.vec 1 bk n]) → hp.length ≤ hp2.length → (∀ j, j < hp.length → ¬ S j → hp2[j]? = hp[j]?) → kb ∉ md → TabIn (hp2.set bk (.cel (cs.set i (.vec 1 l' k')))) bk n (updR rows i (rows i ++ [x])) (fun j => S j ∨ hp.length ≤ j) →
   PRg E p true T [⟨.load none (.tmp t4), none, 0⟩, ⟨.iaddr 1 (.loc 0) (.tmp t6), none, 1⟩, ⟨.store 1 (.loc 0) (.loc 2), none, 1⟩] hp.length ⟨.vec 1 l' k' :: L, false :: O, hp2, md, c⟩ (regQ T [] fun T' hp' => R .norm T' hp') := by
  intro L O md hp2 l' k' c u w f1 f2 f0 f3 f4 f5
  refine prg_v (v := .vec 1 bk n) (q := True) (by simp only [pval, e4, pload, f2]; rfl) ?_ trivial (by
   have : md.contains kb = false := by simpa using f4
   simp only [cond_true, plOk, e4, fresh, this, srcO]
   cases Nat.ble c 0 <;> simp [hkl, vq, vq1])
  refine prg_v (v := .eptr 1 bk i 0) (q := i < n) (by simp only [pval, psev, e6]; simp only [h6, piaddr, epn]; rfl) ?_ hi rfl
  refine prg_cast eptr_ptr ?_
  have hil : i < cs.length := by omega
  refine prg_e (v := .junk) (q := True) (hp' := hp2.set bk (.cel (cs.set i (.vec 1 l' k')))) (by
   simp only [peff, pstore, psev, List.getElem?_cons_zero, List.getElem?_cons_succ, f1, force_eq]
   have : Nat.ble (i + 1) cs.length = true := by rw [Nat.ble_eq]; omega
   simp [pcs, okc, this, psplice]) ?_ trivial
  refine prg_nil ⟨T, by simp only [pback, force_eq], hR _ (by rw [List.length_set]; exact f0) (fun j hj hjS hjb => ?_) f5⟩
  rw [List.getElem?_set_ne (Ne.symm hjb)]
  exact f3 j hj hjS
 refine e_drw ?_
 refine prg_v (v := .vec 1 bk n) (q := True) (by simp only [pval, e4, pload, hkb]; rfl) ?_ trivial rfl
 refine prg_v (v := .eptr 1 bk i 0) (q := i < n) (by simp only [pval, psev, e6]; simp only [h6, piaddr, epn]; rfl) ?_ hi rfl
 refine prg_cast eptr_ptr ?_
 have hmk : ∀ (L : List PV), peff (.mkarr 1 [(.int .i64 0)] [(0, 1, (.tmp t5))]) (psev T L) hp = some (.vec 1 hp.length 1, hp ++ [PB.vec 1 1 g1 true], True) := fun L => by
  simp only [peff, pparts, e5, pmkarr, pfill, fnat_eq, force_eq, ← hg1]
  simp [pcs, okc, oneCell, nlb, psplice, show Nat.ble 1 1 = true from rfl, show Nat.blt 0 1 = true from rfl, show Nat.beq 1 1 = true from rfl]
 have hnew : ∀ (A : PH) (B : PB), (A ++ [B])[A.length]? = some B := fun A B => by simp
 have hil : i < cs.length := by omega
 rcases hrow i hi with ⟨r1, r2⟩ | ⟨r1, r2, r3, f, r4, r5⟩
 ·refine prg_v (v := .s (.slice none 0 0)) (q := True) (by simp only [pval, psev, List.getElem?_cons_zero, pload, hbk, pcells, r2]; rfl) ?_ trivial rfl
  refine prg_e (hmk _) ?_ trivial
  refine prg_e (v := .vec 1 (hp.length + 1) 1) (hp' := hp ++ [PB.vec 1 1 g1 true] ++ [PB.vec 1 1 g1 true]) (q := (1 ≤ 1 ∧ 1 = 1) ∧ 1 * 8 ≤ room ∧ 0 < 1) (by
   simp only [peff, psev, List.getElem?_cons_zero, List.getElem?_cons_succ, pappend, psrc, hnew, fnat_eq]
   simp [show Nat.beq 1 1 = true from rfl]) ?_ ⟨⟨Nat.le_refl _, rfl⟩, by decide, by decide⟩
  refine fin (u := .junk) (w := .junk) ?_ ?_ (by simp) (fun j hj _ => ?_) ?_ ?_
  ·rw [List.append_assoc, List.getElem?_append_left hbl]; exact hbk
  ·rw [List.append_assoc, List.getElem?_append_left hkl]; exact hkb
  ·rw [List.append_assoc, List.getElem?_append_left hj]
  ·simp [pmod, psev]
  ·have := TabIn.push (S := S) (hp := hp) (hp2 := hp ++ [PB.vec 1 1 g1 true] ++ [PB.vec 1 1 g1 true]) (l' := hp.length + 1) (x := x) (g := g1) hcs hi hrow hinj (by simp; omega) hbl hl2 (by omega) (by rw [r1]; simp) (fun j hj => by
    rw [r1] at hj ⊢
    have : j = 0 := by simpa using hj
    subst this; rw [← hg1]; rfl) (fun j hj hn hr' => by
    rcases hrow j hj with ⟨h, _⟩ | ⟨_, _, _, f, h, _⟩
    ·exact absurd h hr'
    ·rw [List.append_assoc, List.getElem?_append_left (List.getElem?_eq_some_iff.1 h).1])
   rw [r1] at this ⊢
   exact this
 ·refine prg_v (v := .vec 1 (ptr i) (rows i).length) (q := True) (by simp only [pval, psev, List.getElem?_cons_zero, pload, hbk, pcells, r2]; rfl) ?_ trivial rfl
  refine prg_e (hmk _) ?_ trivial
  have hpl := (List.getElem?_eq_some_iff.1 r4).1
  have r4' : (hp ++ [PB.vec 1 1 g1 true])[ptr i]? = some (.vec 1 (rows i).length f true) := by rw [List.getElem?_append_left hpl]; exact r4
  refine prg_e (v := .vec 1 (hp.length + 1) ((rows i).length + 1)) (hp' := (hp ++ [PB.vec 1 1 g1 true]).set (ptr i) .dead ++ [PB.vec 1 ((rows i).length + 1) (fun j => if j < (rows i).length then f j else g1 (j - (rows i).length)) true]) (q := (1 ≤ 1 ∧ 1 = 1) ∧ (rows i).length = (rows i).length ∧ 1 = 1 ∧ 1 = 1 ∧ ((rows i).length + 1) * 8 ≤ room ∧ 0 < 1) (by
   simp only [peff, psev, List.getElem?_cons_zero, List.getElem?_cons_succ, pappend, psrc, hnew, fnat_eq, r4']
   simp [show Nat.beq 1 1 = true from rfl]) ?_ ⟨⟨Nat.le_refl _, rfl⟩, rfl, rfl, rfl, hlen, by decide⟩
  refine fin (u := .junk) (w := .junk) ?_ ?_ (by simp; omega) (fun j hj hjS => ?_) ?_ ?_
  ·rw [List.getElem?_append_left (by simp; omega), List.getElem?_set_ne (show ptr i ≠ bk from fun e => hl2 (by rw [← e]; exact r3)), List.getElem?_append_left hbl]; exact hbk
  ·rw [List.getElem?_append_left (by simp; omega), List.getElem?_set_ne (show ptr i ≠ kb from fun e => hl1 (by rw [← e]; exact r3)), List.getElem?_append_left hkl]; exact hkb
  ·rw [List.getElem?_append_left (by simp; omega), List.getElem?_set_ne (show ptr i ≠ j from fun e => hjS (by rw [← e]; exact r3)), List.getElem?_append_left hj]
  ·simp only [pmod, psev, List.getElem?_cons_zero, List.getElem?_cons_succ, List.append_nil, List.mem_append, List.mem_singleton, List.not_mem_nil, or_false]
   exact fun e => hl1 (by rw [e]; exact r3)
  ·refine TabIn.push (S := S) (hp := hp) (x := x) hcs hi hrow hinj (by simp; omega) hbl hl2 (by omega) (g := fun j => if j < (rows i).length then f j else g1 (j - (rows i).length)) (by
    have : hp.length + 1 = ((hp ++ [PB.vec 1 1 g1 true]).set (ptr i) .dead).length := by simp
    rw [this]; exact hnew _ _) (fun j hj => ?_) (fun j hj hn hr' => ?_)
   ·show (if j < (rows i).length then f j else g1 (j - (rows i).length)) = _
    by_cases h : j < (rows i).length
    ·rw [if_pos h, r5 j h]
     simp [rowI, List.getD_eq_getElem?_getD, List.getElem?_append_left h]
    ·have : j = (rows i).length := by omega
     subst this
     rw [if_neg h, ← hg1]
     simp [rowI]
   ·rcases hrow j hj with ⟨h, _⟩ | ⟨_, _, q3, f', h, _⟩
    ·exact absurd h hr'
    ·have hjl := (List.getElem?_eq_some_iff.1 h).1
     have hpp : ptr i ≠ ptr j := fun e => hn (hinj j i hj hi hr' r1 e.symm)
     rw [List.getElem?_append_left (by simp; omega), List.getElem?_set_ne hpp, List.getElem?_append_left hjl]
end
end Go.Proofs.Ytggaimcopbjdiaa.AM
namespace Go.Proofs.Ytggaimcopbjdiaa.AM
section
variable {V : Type → Type} [Vec V] {E : Env V} {F F' F0 : Nat → Prop} {ρ ρ' ρ0 : PR} {H H' H0 : AH V} {hp hp' hp0 : PH} {ds ds' : List Nat} {T L : List PV} {Ta La : List Value} {inR : Bool} {p : List Nat} {a b c : ACode} {R : AE → List PV → PH → Prop}
def afterScope (E : Env V) (inR : Bool) (b : ACode) (Q : Res V → Prop) (r : Res V) : Prop :=
 match r.e with
 | .goto l => ∃ rest, afind b l = some rest ∧ ARuns E (.scope inR b rest r.T r.H r.ds) Q
 | _ => Q r
theorem runs_scope2 {cur : ACode} {T : AT} {Q : Res V → Prop} (h : ARuns E (.code inR cur T H ds) (afterScope E inR b Q)) : ARuns E (.scope inR b cur T H ds) Q := by
 obtain ⟨n, ⟨e, T1, H1, ds1, v⟩, h1, h2⟩ := h
 cases e with
 | goto l =>
   obtain ⟨rest, h3, m, r, h4, h5⟩ := h2
   refine ⟨max n m + 1, r, ?_, h5⟩
   show sScope (arun E (max n m)) inR b (arun E (max n m) (.code inR cur T H ds)) = some r
   rw [arun_mono (Nat.le_max_left n m) _ _ h1]
   simp only [sScope, h3]
   exact arun_mono (Nat.le_max_right n m) _ _ h4
 | _ =>
   refine ⟨n + 1, _, ?_, h2⟩
   show sScope (arun E n) inR b (arun E n (.code inR cur T H ds)) = _
   rw [h1]
   rfl
def gotoQ {ι : Type} (l : Nat) (I : ι → Prop) (m : ι → Nat) (tm : ι → List PV) (hm : ι → PH) (p : List Nat) (n : Option Nat) (R : AE → List PV → PH → Prop) : AE → List PV → PH → Prop := fun e T hp => match e with
 | .goto l' => l' = l ∧ ∃ j, I j ∧ (∀ k, n = some k → m j < k) ∧ ∃ σ fz, Weak p σ fz T hp (tm j) (hm j)
 | e => R e T hp
theorem p_scope2 {ι : Type} {l : Nat} {rest : ACode} (I : ι → Prop) (m : ι → Nat) (tm : ι → List PV) (hm : ι → PH) (hl : afind b l = some rest)
  (h1 : PTri E inR p b T hp (gotoQ l I m tm hm p none R)) (h2 : ∀ i, I i → PTri E inR p rest (tm i) (hm i) (gotoQ l I m tm hm p (some (m i)) R)) : PTri E inR p (.scope b) T hp R := by
 have key : ∀ (n : Nat) (i : ι), m i = n → I i → ∀ (F : Nat → Prop) (ρ : PR) (H : AH V) (ds : List Nat) (Ta : List Value), Rel F ρ (hm i) ds H → PRels F ρ H (tm i) Ta → ARuns E (.scope inR b rest Ta H ds) (TPost F ρ ds H p R) := by
  intro n
  induction n using Nat.strongRecOn with
  | ind n ih =>
    intro i hn hi F ρ H ds Ta hr hT
    refine runs_scope2 ((h2 i hi F ρ H ds Ta hr hT).mono fun r hg => ?_)
    obtain ⟨e, T1, H1, ds1, v1⟩ := r
    obtain ⟨F', ρ', T', hp', a1, a2, a3, a4, a5⟩ := hg
    cases e with
    | goto l' =>
      obtain ⟨rfl, j, q1, q2, σ, fz, hw⟩ := a5
      obtain ⟨F2, ρ2, b1, b2, b3, b4⟩ := weak_ok a3 a4 hw
      exact ⟨rest, hl, (ih (m j) (hn ▸ q2 _ rfl) j rfl q1 F2 ρ2 _ _ _ b3 b4).mono fun r hg => TPost.trans (a1.trans b1) (fun b x y1 y2 => b2 b x y1 (a2 b x y1 y2)) hg⟩
    | _ => exact ⟨F', ρ', T', hp', a1, a2, a3, a4, a5⟩
 intro F ρ H ds Ta hr hT
 refine runs_step (t := .scope inR b b Ta H ds) (fun _ => rfl) (runs_scope2 ((h1 F ρ H ds Ta hr hT).mono fun r hg => ?_))
 obtain ⟨e, T1, H1, ds1, v1⟩ := r
 obtain ⟨F', ρ', T', hp', a1, a2, a3, a4, a5⟩ := hg
 cases e with
 | goto l' =>
   obtain ⟨rfl, j, q1, q2, σ, fz, hw⟩ := a5
   obtain ⟨F2, ρ2, b1, b2, b3, b4⟩ := weak_ok a3 a4 hw
   exact ⟨rest, hl, (key (m j) j rfl q1 F2 ρ2 _ _ _ b3 b4).mono fun r hg => TPost.trans (a1.trans b1) (fun b x y1 y2 => b2 b x y1 (a2 b x y1 y2)) hg⟩
 | _ => exact ⟨F', ρ', T', hp', a1, a2, a3, a4, a5⟩
end
end Go.Proofs.Ytggaimcopbjdiaa.AM
namespace Go.Proofs.Ytggaimcopbjdiaa.AM
section
variable {V : Type → Type} [Vec V] {E : Env V} {F F' F0 : Nat → Prop} {ρ ρ' ρ0 : PR} {H H' H0 : AH V} {hp hp' hp0 : PH} {ds ds' : List Nat} {T L : List PV} {Ta La : List Value} {l0 : Nat} {st st' : PS} {sn : List (AH V)} {dr : Bool} {o : AOper} {ops : List AOper} {Q : List PV → PH → Prop} {inR : Bool} {p : List Nat} {a b c : ACode} {R : AE → List PV → PH → Prop}
theorem prg_vt {O : List Bool} {md : List Nat} {cnt lo : Nat} {op : AOp Src} {gd : Option (Src × Bool)} {Q : List PV → PH → Prop} {v : PV} {q : Prop} (h : pval op (psev T L) hp = some (v, q)) (hP : PRg E p true T ops l0 ⟨v :: L, true :: O, hp, md, cnt⟩ Q) (hq : q) (hl : plOk l0 ⟨L, O, hp, md, cnt⟩ T lo op v = true) (ho : opO l0 ⟨L, O, hp, md, cnt⟩ T op = true) (hw : pwanted T L gd = some true := by rfl) (hh : isHeap op = false := by rfl) : PRg E p true T (⟨op, gd, lo⟩ :: ops) l0 ⟨L, O, hp, md, cnt⟩ Q :=
 prg_v h (by rw [cond_true, ho]; exact hP) hq (by rw [cond_true]; exact hl) hw hh
theorem d_wpush {t4 t5 t6 kb wb bk n i : Nat} {rest : List PV} {x : Int} {rows : Nat → List Int} {S : Nat → Prop} (h4 : T[t4]? = some (.ptr kb 0)) (h5 : T[t5]? = some (.s (.int .i64 x))) (h6 : T[t6]? = some (.s (.int .i64 (i : Nat)))) (hi : i < n) (hkb : hp[kb]? = some (.cel [.ptr wb 0])) (hwb : hp[wb]? = some (.cel (.vec 1 bk n :: rest))) (hr : TabIn hp bk n rows S) (hne : kb ≠ bk) (hne2 : wb ≠ bk) (hl1 : ¬ S kb) (hl3 : ¬ S wb) (hl2 : ¬ S bk) (hlen : ((rows i).length + 1) * 8 ≤ room)
  (hR : ∀ hp', hp.length ≤ hp'.length → (∀ j, j < hp.length → ¬ S j → j ≠ bk → hp'[j]? = hp[j]?) → TabIn hp' bk n (updR rows i (rows i ++ [x])) (fun j => S j ∨ hp.length ≤ j) → R .norm T hp') :
  PTri E inR p (.draw [⟨.load none (.tmp t4), none, 0⟩, ⟨.nilchk (.loc 0), none, 0⟩, ⟨.faddr 0 (.loc 0), none, 0⟩, ⟨.load none (.loc 0), none, 0⟩, ⟨.iaddr 1 (.loc 0) (.tmp t6), none, 0⟩, ⟨.load none (.loc 0), none, 0⟩, ⟨.mkarr 1 [(.int .i64 0)] [(0, 1, (.tmp t5))], none, 0⟩, ⟨.append false 1 8 (.loc 1) (.loc 0), none, 0⟩, ⟨.load none (.tmp t4), none, 0⟩, ⟨.nilchk (.loc 0), none, 0⟩, ⟨.faddr 0 (.loc 0), none, 0⟩, ⟨.load none (.loc 0), none, 0⟩, ⟨.iaddr 1 (.loc 0) (.tmp t6), none, 1⟩, ⟨.store 1 (.loc 0) (.loc 5), none, 1⟩] []) T hp R := by
 obtain ⟨cs, hbk, hcs, ptr, hrow, hinj⟩ := hr
 have hkl := (List.getElem?_eq_some_iff.1 hkb).1
 have hbl := (List.getElem?_eq_some_iff.1 hbk).1
 have e4 : ∀ L, psev T L (.tmp t4) = some (.ptr kb 0) := fun _ => h4
 have e5 : ∀ L, psev T L (.tmp t5) = some (.s (.int .i64 x)) := fun _ => h5
 have e6 : ∀ L, psev T L (.tmp t6) = some (.s (.int .i64 (i : Nat))) := fun _ => h6
 have epn : pnat (some (.s (.int .i64 ((i : Nat) : Int)))) = some i := rfl
 obtain ⟨g1, hg1⟩ : ∃ g : Nat → List PV, (fun j => ([PV.s (.int .i64 x)].drop (j * 1)).take 1) = g := ⟨_, rfl⟩
 -- what the store and the end come to
 have fin : ∀ {L : List PV} {O : List Bool} {md : List Nat} {hp2 : PH} {l' k' c : Nat} {u w : PV}, hp2[bk]? = some (.cel cs) → hp2[kb]? = some (.cel [.ptr wb 0]) → hp2[wb]? = some (.cel (.vec 1 bk n :: rest)) → hp.length ≤ hp2.length → (∀ j, j < hp.length → ¬ S j → hp2[j]? = hp[j]?) → kb ∉ md → wb ∉ md → TabIn (hp2.set bk (.cel (cs.set i (.vec 1 l' k')))) bk n (updR rows i (rows i ++ [x])) (fun j => S j ∨ hp.length ≤ j) →
   PRg E p true T [⟨.load none (.tmp t4), none, 0⟩, ⟨.nilchk (.loc 0), none, 0⟩, ⟨.faddr 0 (.loc 0), none, 0⟩, ⟨.load none (.loc 0), none, 0⟩, ⟨.iaddr 1 (.loc 0) (.tmp t6), none, 1⟩, ⟨.store 1 (.loc 0) (.loc 5), none, 1⟩] hp.length ⟨.vec 1 l' k' :: L, false :: O, hp2, md, c⟩ (regQ T [] fun T' hp' => R .norm T' hp') := by
  intro L O md hp2 l' k' c u w f1 f2 f6 f0 f3 f4 f7 f5
  have c4 : md.contains kb = false := by simpa using f4
  have c7 : md.contains wb = false := by simpa using f7
  have hwl := (List.getElem?_eq_some_iff.1 hwb).1
  refine prg_vt (v := .ptr wb 0) (q := True) (by simp only [pval, e4, pload, f2]; rfl) ?_ trivial (by
   simp only [plOk, e4, fresh, c4, srcO]
   cases Nat.ble c 0 <;> simp [hkl, vq, vq1]) (by simp [opO, e4, fresh, f4, srcO, hkl])
  refine prg_vt (v := .ptr wb 0) (q := True) (by simp only [pval, psev, List.getElem?_cons_zero, pnilchk]; rfl) ?_ trivial rfl (by simp [opO, srcO])
  refine prg_vt (v := .ptr wb 0) (q := True) (by simp only [pval, psev, List.getElem?_cons_zero, pfaddr]; rfl) ?_ trivial rfl (by simp [opO, srcO])
  refine prg_vt (v := .vec 1 bk n) (q := True) (by simp only [pval, psev, List.getElem?_cons_zero, pload, f6]; rfl) ?_ trivial (by
   simp only [plOk, psev, List.getElem?_cons_zero, fresh, c7, srcO]
   cases Nat.ble c 0 <;> simp [hwl, vq, vq1]) (by simp [opO, psev, fresh, f7, srcO, hwl])
  refine prg_v (v := .eptr 1 bk i 0) (q := i < n) (by simp only [pval, psev, e6]; simp only [h6, piaddr, epn]; rfl) ?_ hi rfl
  refine prg_cast eptr_ptr ?_
  have hil : i < cs.length := by omega
  refine prg_e (v := .junk) (q := True) (hp' := hp2.set bk (.cel (cs.set i (.vec 1 l' k')))) (by
   simp only [peff, pstore, psev, List.getElem?_cons_zero, List.getElem?_cons_succ, f1, force_eq]
   have : Nat.ble (i + 1) cs.length = true := by rw [Nat.ble_eq]; omega
   simp [pcs, okc, this, psplice]) ?_ trivial
  refine prg_nil ⟨T, by simp only [pback, force_eq], hR _ (by rw [List.length_set]; exact f0) (fun j hj hjS hjb => ?_) f5⟩
  rw [List.getElem?_set_ne (Ne.symm hjb)]
  exact f3 j hj hjS
 refine e_drw ?_
 refine prg_v (v := .ptr wb 0) (q := True) (by simp only [pval, e4, pload, hkb]; rfl) ?_ trivial rfl
 refine prg_v (v := .ptr wb 0) (q := True) (by simp only [pval, psev, List.getElem?_cons_zero, pnilchk]; rfl) ?_ trivial rfl
 refine prg_v (v := .ptr wb 0) (q := True) (by simp only [pval, psev, List.getElem?_cons_zero, pfaddr]; rfl) ?_ trivial rfl
 refine prg_v (v := .vec 1 bk n) (q := True) (by simp only [pval, psev, List.getElem?_cons_zero, pload, hwb]; rfl) ?_ trivial rfl
 refine prg_v (v := .eptr 1 bk i 0) (q := i < n) (by simp only [pval, psev, e6]; simp only [h6, piaddr, epn]; rfl) ?_ hi rfl
 refine prg_cast eptr_ptr ?_
 have hmk : ∀ (L : List PV), peff (.mkarr 1 [(.int .i64 0)] [(0, 1, (.tmp t5))]) (psev T L) hp = some (.vec 1 hp.length 1, hp ++ [PB.vec 1 1 g1 true], True) := fun L => by
  simp only [peff, pparts, e5, pmkarr, pfill, fnat_eq, force_eq, ← hg1]
  simp [pcs, okc, oneCell, nlb, psplice, show Nat.ble 1 1 = true from rfl, show Nat.blt 0 1 = true from rfl, show Nat.beq 1 1 = true from rfl]
 have hnew : ∀ (A : PH) (B : PB), (A ++ [B])[A.length]? = some B := fun A B => by simp
 have hil : i < cs.length := by omega
 rcases hrow i hi with ⟨r1, r2⟩ | ⟨r1, r2, r3, f, r4, r5⟩
 ·refine prg_v (v := .s (.slice none 0 0)) (q := True) (by simp only [pval, psev, List.getElem?_cons_zero, pload, hbk, pcells, r2]; rfl) ?_ trivial rfl
  refine prg_e (hmk _) ?_ trivial
  refine prg_e (v := .vec 1 (hp.length + 1) 1) (hp' := hp ++ [PB.vec 1 1 g1 true] ++ [PB.vec 1 1 g1 true]) (q := (1 ≤ 1 ∧ 1 = 1) ∧ 1 * 8 ≤ room ∧ 0 < 1) (by
   simp only [peff, psev, List.getElem?_cons_zero, List.getElem?_cons_succ, pappend, psrc, hnew, fnat_eq]
   simp [show Nat.beq 1 1 = true from rfl]) ?_ ⟨⟨Nat.le_refl _, rfl⟩, by decide, by decide⟩
  refine fin (u := .junk) (w := .junk) ?_ ?_ ?_ (by simp) (fun j hj _ => ?_) ?_ ?_ ?_
  ·rw [List.append_assoc, List.getElem?_append_left hbl]; exact hbk
  ·rw [List.append_assoc, List.getElem?_append_left hkl]; exact hkb
  ·rw [List.append_assoc, List.getElem?_append_left (List.getElem?_eq_some_iff.1 hwb).1]; exact hwb
  ·rw [List.append_assoc, List.getElem?_append_left hj]
  ·simp [pmod, psev]
  ·simp [pmod, psev]
  ·have := TabIn.push (S := S) (hp := hp) (hp2 := hp ++ [PB.vec 1 1 g1 true] ++ [PB.vec 1 1 g1 true]) (l' := hp.length + 1) (x := x) (g := g1) hcs hi hrow hinj (by simp; omega) hbl hl2 (by omega) (by rw [r1]; simp) (fun j hj => by
    rw [r1] at hj ⊢
    have : j = 0 := by simpa using hj
    subst this; rw [← hg1]; rfl) (fun j hj hn hr' => by
    rcases hrow j hj with ⟨h, _⟩ | ⟨_, _, _, f, h, _⟩
    ·exact absurd h hr'
    ·rw [List.append_assoc, List.getElem?_append_left (List.getElem?_eq_some_iff.1 h).1])
   rw [r1] at this ⊢
   exact this
 ·refine prg_v (v := .vec 1 (ptr i) (rows i).length) (q := True) (by simp only [pval, psev, List.getElem?_cons_zero, pload, hbk, pcells, r2]; rfl) ?_ trivial rfl
  refine prg_e (hmk _) ?_ trivial
  have hpl := (List.getElem?_eq_some_iff.1 r4).1
  have r4' : (hp ++ [PB.vec 1 1 g1 true])[ptr i]? = some (.vec 1 (rows i).length f true) := by rw [List.getElem?_append_left hpl]; exact r4
  refine prg_e (v := .vec 1 (hp.length + 1) ((rows i).length + 1)) (hp' := (hp ++ [PB.vec 1 1 g1 true]).set (ptr i) .dead ++ [PB.vec 1 ((rows i).length + 1) (fun j => if j < (rows i).length then f j else g1 (j - (rows i).length)) true]) (q := (1 ≤ 1 ∧ 1 = 1) ∧ (rows i).length = (rows i).length ∧ 1 = 1 ∧ 1 = 1 ∧ ((rows i).length + 1) * 8 ≤ room ∧ 0 < 1) (by
   simp only [peff, psev, List.getElem?_cons_zero, List.getElem?_cons_succ, pappend, psrc, hnew, fnat_eq, r4']
   simp [show Nat.beq 1 1 = true from rfl]) ?_ ⟨⟨Nat.le_refl _, rfl⟩, rfl, rfl, rfl, hlen, by decide⟩
  refine fin (u := .junk) (w := .junk) ?_ ?_ ?_ (by simp; omega) (fun j hj hjS => ?_) ?_ ?_ ?_
  ·rw [List.getElem?_append_left (by simp; omega), List.getElem?_set_ne (show ptr i ≠ bk from fun e => hl2 (by rw [← e]; exact r3)), List.getElem?_append_left hbl]; exact hbk
  ·rw [List.getElem?_append_left (by simp; omega), List.getElem?_set_ne (show ptr i ≠ kb from fun e => hl1 (by rw [← e]; exact r3)), List.getElem?_append_left hkl]; exact hkb
  ·have hwl := (List.getElem?_eq_some_iff.1 hwb).1
   rw [List.getElem?_append_left (by simp; omega), List.getElem?_set_ne (show ptr i ≠ wb from fun e => hl3 (by rw [← e]; exact r3)), List.getElem?_append_left hwl]; exact hwb
  ·rw [List.getElem?_append_left (by simp; omega), List.getElem?_set_ne (show ptr i ≠ j from fun e => hjS (by rw [← e]; exact r3)), List.getElem?_append_left hj]
  ·simp only [pmod, psev, List.getElem?_cons_zero, List.getElem?_cons_succ, List.append_nil, List.mem_append, List.mem_singleton, List.not_mem_nil, or_false]
   exact fun e => hl1 (by rw [e]; exact r3)
  ·simp only [pmod, psev, List.getElem?_cons_zero, List.getElem?_cons_succ, List.append_nil, List.mem_append, List.mem_singleton, List.not_mem_nil, or_false]
   exact fun e => hl3 (by rw [e]; exact r3)
  ·refine TabIn.push (S := S) (hp := hp) (x := x) hcs hi hrow hinj (by simp; omega) hbl hl2 (by omega) (g := fun j => if j < (rows i).length then f j else g1 (j - (rows i).length)) (by
    have : hp.length + 1 = ((hp ++ [PB.vec 1 1 g1 true]).set (ptr i) .dead).length := by simp
    rw [this]; exact hnew _ _) (fun j hj => ?_) (fun j hj hn hr' => ?_)
   ·show (if j < (rows i).length then f j else g1 (j - (rows i).length)) = _
    by_cases h : j < (rows i).length
    ·rw [if_pos h, r5 j h]
     simp [rowI, List.getD_eq_getElem?_getD, List.getElem?_append_left h]
    ·have : j = (rows i).length := by omega
     subst this
     rw [if_neg h, ← hg1]
     simp [rowI]
   ·rcases hrow j hj with ⟨h, _⟩ | ⟨_, _, q3, f', h, _⟩
    ·exact absurd h hr'
    ·have hjl := (List.getElem?_eq_some_iff.1 h).1
     have hpp : ptr i ≠ ptr j := fun e => hn (hinj j i hj hi hr' r1 e.symm)
     rw [List.getElem?_append_left (by simp; omega), List.getElem?_set_ne hpp, List.getElem?_append_left hjl]
end
end Go.Proofs.Ytggaimcopbjdiaa.AM
