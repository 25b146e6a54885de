/- A machine over what is there: values with their rows, a heap of one's own. It is sound for the abstract machine. PUT TOGETHER by mk.py. -/
import Derived.Test.YtollibkfagjnaaaPM
set_option linter.unusedVariables false
set_option linter.unusedSimpArgs false
/- Blocks frozen within a region; functions that have nothing to do with one's own, called in whatever heap. -/
namespace Go.Proofs.Ytollibkfagjnaaa.AM
section
variable {V : Type → Type} [Vec V] {E : Env V} {F F' F0 : Nat → Prop} {ρ ρ' ρ0 : PR} {H H' H0 : AH V} {hp hp' hp0 : PH} {ds ds' : List Nat} {T L : List PV} {Ta La : List Value} {l0 : Nat} {st st' : PS} {sn : List (AH V)} {dr : Bool} {o : AOper} {ops : List AOper} {Q : List PV → PH → Prop} {inR : Bool} {p : List Nat} {a b c : ACode} {R : AE → List PV → PH → Prop}
/-- A live block's place is not frozen. -/
theorem Rel.live (hr : Rel F ρ hp ds H) {b a e : Nat} {B : PB} (h : hp[b]? = some B) (hne : B ≠ .dead) (he : ρ b = some (some (a, e))) : ¬ F a := by
  have hbo := hr.blk b B h
  cases B with
  | dead => exact absurd rfl hne
  | cel cs =>
    obtain ⟨a', e', vs', q1, q2, _⟩ := hbo
    rw [he] at q1; cases q1; exact q2
  | loop T ps as_ bd st pe =>
    obtain ⟨a', e', vs', q1, q2, _⟩ := hbo
    rw [he] at q1; cases q1; exact q2
  | vec sz n f full =>
    rcases hbo with ⟨q1, _⟩ | ⟨a', ce, vs', q1, q2, _⟩
    · rw [he] at q1; cases q1
    · rw [he] at q1; cases q1; exact q2
theorem rel_fz (hr : Rel F ρ hp ds H) {b : Nat} {B : PB} (hb : hp[b]? = some B) (hne : B ≠ .dead) : Rel (frzF F ρ hp [b]) ρ (hp.set b .dead) ds H ∧ PExt F ρ ds H (frzF F ρ hp [b]) ρ ds H ∧ FLe F H (frzF F ρ hp [b]) H := by
  have hle : FLe F H (frzF F ρ hp [b]) H := ⟨fun _ h => .inl h, fun _ _ => rfl⟩
  have hown : ∀ a, frzF F ρ hp [b] a → F a ∨ Own ρ a := by
    rintro a (h | ⟨i, B, e, _, _, _, h⟩)
    · exact .inl h
    · exact .inr ⟨i, e, h⟩
  have hset : ∀ b' C, (hp.set b .dead)[b']? = some C → C ≠ .dead → b' ≠ b ∧ hp[b']? = some C := fun b' C h1 h2 => by
    by_cases e : b = b'
    · subst e
      rw [List.getElem?_set_self (List.getElem?_eq_some_iff.1 hb).1] at h1
      cases h1; exact absurd rfl h2
    · rw [List.getElem?_set_ne e] at h1
      exact ⟨Ne.symm e, h1⟩
  refine ⟨⟨fun a h => ?_, fun b' C h => ?_, fun b' b'' B' B'' a e e' g1 g2 d1 d2 q1 q2 => ?_, fun b' h => ?_, hr.own, fun d hd => ?_, hr.nd⟩, ⟨Nat.le_refl _, fun _ h => .inl h, fun _ _ => rfl, fun a h => ?_, fun _ _ _ _ => rfl, fun _ h => .inl h, fun _ h => .inl h⟩, hle⟩
  · rcases hown a h with x | ⟨i, e, x⟩
    · exact hr.fsz a x
    · exact hr.own _ _ _ x
  · by_cases hC : C = .dead
    · subst hC; trivial
    · obtain ⟨n1, n2⟩ := hset b' C h hC
      refine (hr.blk b' C n2).mono' hle (fun _ _ h => h) (fun _ h => h) fun a e hne' he => ⟨?_, rfl⟩
      rintro (x | ⟨i, D, e', x1, x2, x3, x4⟩)
      · exact hr.live n2 hC he x
      · have : i = b := by simpa using x1
        subst this
        exact n1 (hr.inj _ _ _ _ _ _ _ n2 x2 hC x3 he x4)
  · obtain ⟨_, n2⟩ := hset _ _ g1 d1
    obtain ⟨_, n4⟩ := hset _ _ g2 d2
    exact hr.inj _ _ _ _ _ _ _ n2 n4 d1 d2 q1 q2
  · rw [List.length_set] at h; exact hr.dom _ h
  · obtain ⟨q1, q2, q3⟩ := hr.dfr d hd
    refine ⟨q1, fun x => ?_, q3⟩
    rcases hown d x with y | y
    · exact q2 y
    · exact q3 y
  · rcases hown a h with x | x
    · exact .inl x
    · exact .inr (.inl x)
/-- The row that was just made, frozen. -/
theorem prg_fz {sz b n m k : Nat} {f row : Nat → List PV} {full o : Bool} {O : List Bool} {md : List Nat} {cnt : Nat} (hf : ∀ i, i < k → f i = row i) (hP : PRg E p dr T ops l0 ⟨.frz sz n k row :: L, false :: O, hp', md, cnt⟩ Q)
    (hb : hp[b]? = some (.vec sz m f full) := by rfl) (hs : hp.set b .dead = hp' := by rfl) (hl : l0 ≤ b := by first | exact Nat.le_refl _ | exact Nat.le_of_ble_eq_true rfl | omega) (h1 : n ≤ k := by first | exact Nat.le_refl _ | decide | omega) (h2 : k ≤ m := by first | exact Nat.le_refl _ | decide | omega) : PRg E p dr T ops l0 ⟨.vec sz b n :: L, o :: O, hp, md, cnt⟩ Q := by
  subst hs
  intro F0 ρ0 hp0 H0 F ρ H ds Ta La sn hr hd
  obtain ⟨r1, r2, r3⟩ := rel_fz hr hb (by simp)
  have hlr : RLe' ρ ρ := fun _ _ h => h
  have hL : PRels (frzF F ρ hp [b]) ρ H (.frz sz n k row :: L) La := ⟨hd.L.len, fun j c w q1 q2 => by
    cases j with
    | zero =>
      simp only [List.getElem?_cons_zero, Option.some.injEq] at q1
      subst q1
      have := vsub1_ok (σ := (List.range hp.length).map some) (fz := [b]) hr (VSub1.vecf (σ := (List.range hp.length).map some) (n := n) (k := k) (row := row) (by simp) hb rfl h1 h2 hf) (hd.L.at' 0 _ w rfl q2)
      exact .fr this.frz_inv
    | succ j => exact (hd.L.at' (j + 1) c w q1 q2).mono r3 hlr⟩
  have key := hP F0 ρ0 hp0 H0 _ ρ H ds Ta La sn r1 ⟨⟨fun a h => r3.mono _ (hd.fle.mono a h), hd.fle.get⟩, hd.rle, hd.hh, hd.T, hL, fun d u w q1 q2 q3 => by
    cases d with
    | zero => simp at q1
    | succ d => exact hd.O (d + 1) u w q1 q2 q3, hd.cnt, hd.len, fun b' B q1 q2 q3 => by
      have := hd.un' b' B q1 q2 q3
      show (hp.set b .dead)[b']? = some B
      rw [List.getElem?_set_ne (by omega)]
      exact this, hd.sn⟩
  by_cases hdr : dr = true
  · rw [if_pos hdr] at key ⊢
    exact key.mono fun _ _ h => h.step r2 fun _ _ _ q => q
  · rw [if_neg hdr] at key ⊢
    exact key.mono fun _ _ h => h.step r2 fun _ _ _ q => q
end
end Go.Proofs.Ytollibkfagjnaaa.AM

/- A call of a function that works on some of one's own blocks alone: the others stay. -/
namespace Go.Proofs.Ytollibkfagjnaaa.AM
section
variable {V : Type → Type} [Vec V] {E : Env V} {F F' F0 : Nat → Prop} {ρ ρ' ρ0 : PR} {H H' H0 : AH V} {hp hp' hp0 : PH} {ds ds' : List Nat} {T L : List PV} {Ta La : List Value} {l0 : Nat} {st st' : PS} {sn : List (AH V)} {dr : Bool} {o : AOper} {ops : List AOper} {Q : List PV → PH → Prop} {inR : Bool} {p : List Nat} {a b c : ACode} {R : AE → List PV → PH → Prop}
theorem weak_at {σ : Sig} {fz : List Nat} {T' : List PV} (hr : Rel F ρ hp ds H) (hT : PRels F ρ H T Ta) (hw : Weak p σ fz T hp T' hp') : PExt F ρ ds H (frzF F ρ hp fz) (sgR σ ρ) ds H ∧ (∀ b x, b ∈ p → ρ b = some x → sgR σ ρ b = some x) ∧ Rel (frzF F ρ hp fz) (sgR σ ρ) hp' ds H ∧ PRels (frzF F ρ hp fz) (sgR σ ρ) H T' Ta := by
  have hown : ∀ a, Own (sgR σ ρ) a → Own ρ a := by
    rintro a ⟨b, e, h⟩
    unfold sgR at h
    split at h
    · exact ⟨_, e, h⟩
    · cases h
    · cases h
  have hFlive : ∀ a, frzF F ρ hp fz a → ¬ F a → Own ρ a := by
    rintro a (h | ⟨i, B, e, _, _, _, h⟩) hn
    · exact absurd h hn
    · exact ⟨i, e, h⟩
  have hnF : ∀ i B a e, hp[i]? = some B → B ≠ .dead → i ∉ fz → ρ i = some (some (a, e)) → ¬ F a → ¬ frzF F ρ hp fz a := by
    rintro i B a e h1 h2 h3 h4 h5 (h | ⟨j, C, e', q1, q2, q3, q4⟩)
    · exact h5 h
    · have := hr.inj i j B C a e e' h1 q2 h2 q3 h4 q4
      subst this
      exact h3 q1
  refine ⟨⟨Nat.le_refl _, fun _ h => .inl h, fun _ _ => rfl, fun a h => ?_, fun _ _ _ _ => rfl, fun a h => .inl (hown a h), fun _ h => .inl h⟩, fun b x hb h => ?_, ⟨?_, ?_, ?_, ?_, ?_, ?_, hr.nd⟩, vsubs_ok hr hw.vals hT⟩
  · by_cases hF : F a
    · exact .inl hF
    · exact .inr (.inl (hFlive a h hF))
  · simp only [sgR, sgKeep_at hw.keep hb]; exact h
  · rintro a (h | ⟨i, B, e, _, _, _, h⟩)
    · exact hr.fsz a h
    · exact hr.own _ _ _ h
  · intro b B hb
    have hs := hw.blks.at hb
    rw [Nat.zero_add] at hs
    cases hs with
    | dead => trivial
    | cel h hf hb' hc =>
      obtain ⟨a, e, vs, r1, r2, r3, r4, r5⟩ := hr.blk _ _ hb'
      exact ⟨a, e, vs, by simp only [sgR, h]; exact r1, hnF _ _ a e hb' (by simp) hf r1 r2, r3, r4, vsubs_ok hr hc r5⟩
    | loop h hf hb' hc =>
      obtain ⟨a, e, Ta, r1, r2, r3, r4⟩ := hr.blk _ _ hb'
      exact ⟨a, e, Ta, by simp only [sgR, h]; exact r1, hnF _ _ a e hb' (by simp) hf r1 r2, r3, vsubs_ok hr hc r4⟩
    | vec h hf hb' hn hfull hc =>
      rcases hr.blk _ _ hb' with ⟨q1, q2⟩ | ⟨a, ce, vs, r1, r2, r3, r4, r5, r6, r7, r8, r9, r10⟩
      · exact .inl ⟨by simp only [sgR, h]; exact q1, by omega⟩
      · refine .inr ⟨a, ce, vs, by simp only [sgR, h]; exact r1, hnF _ _ a ce hb' (by simp) hf r1 r2, r3, r4, r5, by omega, fun q => ?_, r8, fun i hi => by rw [← hc i hi]; exact r9 i (by omega), fun i j c v hi q1 q2 => (r10 i j c v (by omega) (by rw [hc i hi]; exact q1) q2).mono ⟨fun _ h => .inl h, fun _ _ => rfl⟩⟩
        obtain ⟨x1, x2⟩ := hfull q
        rw [x2]; exact r7 x1
    | nil h => exact .inl ⟨by simp only [sgR, h], rfl⟩
    | veccel h hf hb' hn hl hc =>
      rcases hr.blk _ _ hb' with ⟨q1, q2⟩ | ⟨a, ce, vs, r1, r2, r3, r4, r5, r6, r7, r8, r9, r10⟩
      · omega
      · have hce := r7 rfl
        refine ⟨a, ce, vs, by simp only [sgR, h]; exact r1, hnF _ _ a ce hb' (by simp) hf r1 r2, r3, r4, by omega, fun j c v q1 q2 => ?_⟩
        have hj := (List.getElem?_eq_some_iff.1 q1).1
        exact .fr ((r10 j 0 c v (by omega) (by rw [hc j c q1]; rfl) (by simpa using q2)).mono ⟨fun _ h => .inl h, fun _ _ => rfl⟩)
  · intro b b' B B' a e e' g1 g2 d1 d2 q1 q2
    have live : ∀ b B a e, hp'[b]? = some B → B ≠ .dead → sgR σ ρ b = some (some (a, e)) → ∃ i C, σ[b]? = some (some i) ∧ hp[i]? = some C ∧ C ≠ .dead ∧ ρ i = some (some (a, e)) := by
      intro b B a e h1 h2 h3
      have hs := hw.blks.at h1
      rw [Nat.zero_add] at hs
      cases hs with
      | dead => exact absurd rfl h2
      | cel h hf hb' hc => exact ⟨_, _, h, hb', by simp, by simpa only [sgR, h] using h3⟩
      | loop h hf hb' hc => exact ⟨_, _, h, hb', by simp, by simpa only [sgR, h] using h3⟩
      | vec h hf hb' hn hfull hc => exact ⟨_, _, h, hb', by simp, by simpa only [sgR, h] using h3⟩
      | nil h => simp only [sgR, h] at h3; cases h3
      | veccel h hf hb' hn hl hc => exact ⟨_, _, h, hb', by simp, by simpa only [sgR, h] using h3⟩
    obtain ⟨i, C, x1, x2, x3, x4⟩ := live b B a e g1 d1 q1
    obtain ⟨j, D, y1, y2, y3, y4⟩ := live b' B' a e' g2 d2 q2
    have := hr.inj i j C D a e e' x2 y2 x3 y3 x4 y4
    subst this
    exact sgInj_at hw.inj x1 y1
  · intro b hb
    rw [hw.len] at hb
    simp only [sgR, List.getElem?_eq_none hb]
  · intro b a e h
    obtain ⟨c, e', h'⟩ := hown a ⟨b, e, h⟩
    exact hr.own _ _ _ h'
  · intro d hd
    obtain ⟨q1, q2, q3⟩ := hr.dfr d hd
    exact ⟨q1, fun x => q3 (hFlive d x q2), fun x => q3 (hown d x)⟩
/-- Names told otherwise. -/
def ren0 (κ : Nat → Nat) : PV → PV
  | .ptr b o => .ptr (κ b) o
  | .eptr sz b i o => .eptr sz (κ b) i o
  | .vec sz b n => .vec sz (κ b) n
  | .sub sz b i n => .sub sz (κ b) i n
  | .exv sz b n => .exv sz (κ b) n
  | .tbv b n => .tbv (κ b) n
  | .que b i n => .que (κ b) i n
  | .yld b => .yld (κ b)
  | v => v
def ren1 (κ : Nat → Nat) : PV → PV
  | .agg cs => .agg (cs.map (ren0 κ))
  | .fn f a c => .fn f (a.map (ren0 κ)) (c.map (ren0 κ))
  | v => ren0 κ v
def ren2 (κ : Nat → Nat) : PV → PV
  | .tup cs => .tup (cs.map (ren1 κ))
  | v => ren1 κ v
def rok1 : PV → Bool
  | .agg cs => cs.all flat0
  | .fn _ a c => a.all flat0 && c.all flat0
  | .tup _ => false
  | _ => true
def rok2 : PV → Bool
  | .tup cs => cs.all rok1
  | v => rok1 v
def renB (κ : Nat → Nat) : PB → PB
  | .cel cs => .cel (cs.map (ren1 κ))
  | .loop .. => .dead
  | B => B
def rokB : PB → Bool
  | .cel cs => cs.all rok1
  | _ => true
theorem ren0_ok {κ : Nat → Nat} {ρc : PR} (hκ : ∀ i x, ρc i = some x → ρ (κ i) = some x) {v : PV} {w : Value} (h : PRel F ρc H v w) (hv : flat0 v = true) : PRel F ρ H (ren0 κ v) w := by
  cases h with
  | fr h =>
    have : ren0 κ v = v := by cases h <;> rfl
    rw [this]; exact .fr h
  | ptr h => exact .ptr (hκ _ _ h)
  | eptr h => exact .eptr (hκ _ _ h)
  | vec h hn => exact .vec (hκ _ _ h) hn
  | vecz h hn => exact .vecz (hκ _ _ h) hn
  | sub h ho hl hn => exact .sub (hκ _ _ h) ho hl hn
  | exv h hn => exact .exv (hκ _ _ h) hn
  | exvz h hn => exact .exvz (hκ _ _ h) hn
  | tbv h hn => exact .tbv (hκ _ _ h) hn
  | que h => exact .que (hκ _ _ h)
  | subz h hn => exact .subz (hκ _ _ h) hn
  | yld h => exact .yld (hκ _ _ h)
  | agg => cases hv
  | tup => cases hv
  | fn => cases hv
theorem ren_all {κ : Nat → Nat} {ρc : PR} {f : PV → PV} {ok : PV → Bool} (hf : ∀ {v : PV} {w : Value}, PRel F ρc H v w → ok v = true → PRel F ρ H (f v) w) {cs : List PV} {l : List Value} (hl : cs.length = l.length) (h : ∀ (j : Nat) (c : PV) (v : Value), cs[j]? = some c → l[j]? = some v → PRel F ρc H c v) (hv : cs.all ok = true) : (cs.map f).length = l.length ∧ ∀ (j : Nat) (c : PV) (v : Value), (cs.map f)[j]? = some c → l[j]? = some v → PRel F ρ H c v := by
  refine ⟨by simp [hl], fun j c v h1 h2 => ?_⟩
  rw [List.getElem?_map] at h1
  cases hq : cs[j]? with
  | none => rw [hq] at h1; cases h1
  | some u =>
    rw [hq] at h1; cases h1
    exact hf (h j u v hq h2) (List.all_eq_true.1 hv _ (List.mem_of_getElem? hq))
theorem ren1_ok {κ : Nat → Nat} {ρc : PR} (hκ : ∀ i x, ρc i = some x → ρ (κ i) = some x) {v : PV} {w : Value} (h : PRel F ρc H v w) (hv : rok1 v = true) : PRel F ρ H (ren1 κ v) w := by
  cases v with
  | agg cs =>
    obtain ⟨l, rfl, hl⟩ := h.agg_inv
    obtain ⟨q1, q2⟩ := ren_all (κ := κ) (f := ren0 κ) (ok := flat0) (fun h1 h2 => ren0_ok hκ h1 h2) hl.len hl.at' hv
    exact .agg q1 q2
  | tup cs => cases hv
  | fn f a c =>
    simp only [rok1, Bool.and_eq_true] at hv
    cases h with
    | fr h => cases h
    | fn hl h hm h' =>
      obtain ⟨q1, q2⟩ := ren_all (κ := κ) (f := ren0 κ) (ok := flat0) (fun h1 h2 => ren0_ok hκ h1 h2) hl h hv.1
      obtain ⟨q3, q4⟩ := ren_all (κ := κ) (f := ren0 κ) (ok := flat0) (fun h1 h2 => ren0_ok hκ h1 h2) hm h' hv.2
      exact .fn q1 q2 q3 q4
  | _ => exact ren0_ok hκ h rfl
theorem ren2_ok {κ : Nat → Nat} {ρc : PR} (hκ : ∀ i x, ρc i = some x → ρ (κ i) = some x) {v : PV} {w : Value} (h : PRel F ρc H v w) (hv : rok2 v = true) : PRel F ρ H (ren2 κ v) w := by
  cases v with
  | tup cs =>
    obtain ⟨l, rfl, hl⟩ := h.tup_inv
    obtain ⟨q1, q2⟩ := ren_all (κ := κ) (f := ren1 κ) (ok := rok1) (fun h1 h2 => ren1_ok hκ h1 h2) hl.len hl.at' hv
    exact .tup q1 q2
  | _ => exact ren1_ok hκ h hv
theorem ren1s_ok {κ : Nat → Nat} {ρc : PR} (hκ : ∀ i x, ρc i = some x → ρ (κ i) = some x) {cs : List PV} {l : List Value} (h : PRels F ρc H cs l) (hv : cs.all rok1 = true) : PRels F ρ H (cs.map (ren1 κ)) l := by
  obtain ⟨q1, q2⟩ := ren_all (κ := κ) (f := ren1 κ) (ok := rok1) (fun h1 h2 => ren1_ok hκ h1 h2) h.len h.at' hv
  exact ⟨q1, q2⟩
def inv : List Nat → Nat → Option Nat
  | [], _ => none
  | a :: l, j => bif Nat.beq a j then some 0 else match inv l j with | some i => some (i + 1) | none => none
theorem inv_some : ∀ {σ : List Nat} {j i : Nat}, inv σ j = some i → σ[i]? = some j
  | [], _, _, h => by cases h
  | a :: l, j, i, h => by
    simp only [inv] at h
    cases hb : Nat.beq a j with
    | true =>
      rw [hb] at h; cases h
      rw [Nat.eq_of_beq_eq_true hb]; rfl
    | false =>
      rw [hb] at h
      simp only [cond_false] at h
      split at h
      · next i' e =>
        cases h
        simpa using inv_some e
      · cases h
theorem inv_none : ∀ {σ : List Nat} {j : Nat}, inv σ j = none → j ∉ σ
  | [], _, _ => by simp
  | a :: l, j, h => by
    simp only [inv] at h
    cases hb : Nat.beq a j with
    | true => rw [hb] at h; cases h
    | false =>
      rw [hb] at h
      simp only [cond_false] at h
      split at h
      · cases h
      · next e =>
        rw [List.mem_cons]
        rintro (x | x)
        · subst x
          have : Nat.beq j j = true := by rw [Nat.beq_eq]
          rw [this] at hb; cases hb
        · exact inv_none e x
def kap (σ : List Nat) (n i : Nat) : Nat := match σ[i]? with | some j => j | none => n + (i - σ.length)
def putB (σ fz : List Nat) (n : Nat) (hpc : PH) (j : Nat) (B : PB) : PB := match inv σ j with
  | some i => (match hpc[i]? with | some C => renB (kap σ n) C | none => .dead)
  | none => bif fz.contains j then .dead else B
def putL (σ fz : List Nat) (n : Nat) (hpc : PH) : Nat → PH → PH
  | _, [] => (hpc.drop σ.length).map (renB (kap σ n))
  | j, B :: r => putB σ fz n hpc j B :: putL σ fz n hpc (j + 1) r
theorem putL_len (σ fz : List Nat) (n : Nat) (hpc : PH) : ∀ (j : Nat) (l : PH), (putL σ fz n hpc j l).length = l.length + (hpc.length - σ.length)
  | _, [] => by simp [putL]
  | j, B :: r => by simp only [putL, List.length_cons, putL_len σ fz n hpc (j + 1) r]; omega
theorem putL_at (σ fz : List Nat) (n : Nat) (hpc : PH) : ∀ (j : Nat) (l : PH) (b : Nat) (B : PB), (putL σ fz n hpc j l)[b]? = some B → (∃ C, l[b]? = some C ∧ B = putB σ fz n hpc (j + b) C) ∨ (l.length ≤ b ∧ ∃ C, hpc[σ.length + (b - l.length)]? = some C ∧ B = renB (kap σ n) C)
  | j, [], b, B, h => by
    simp only [putL, List.getElem?_map, List.getElem?_drop] at h
    refine .inr ⟨Nat.zero_le _, ?_⟩
    cases hq : hpc[σ.length + b]? with
    | none => rw [hq] at h; cases h
    | some C => rw [hq] at h; cases h; exact ⟨C, rfl, rfl⟩
  | j, B0 :: r, b, B, h => by
    cases b with
    | zero => simp only [putL, List.getElem?_cons_zero, Option.some.injEq] at h; exact .inl ⟨B0, rfl, h.symm⟩
    | succ b =>
      simp only [putL, List.getElem?_cons_succ] at h
      rcases putL_at σ fz n hpc (j + 1) r b B h with ⟨C, h1, h2⟩ | ⟨h1, C, h2, h3⟩
      · exact .inl ⟨C, by simpa using h1, by rw [h2, Nat.add_right_comm, Nat.add_assoc]⟩
      · exact .inr ⟨by simp only [List.length_cons]; omega, C, by simp only [List.length_cons]; rw [show b + 1 - (r.length + 1) = b - r.length by omega]; exact h2, h3⟩
def emb (σ fz : List Nat) (hp hpc : PH) : PH := putL σ fz hp.length hpc 0 hp
def liveIn (hp : PH) (σ : List Nat) : Bool := σ.all fun j => match hp[j]? with | some .dead => false | some _ => true | none => false
def sigR (σ : List Nat) (n : Nat) (ρ ρ2 : PR) : PR := fun j => if j < n then (match inv σ j with | some i => ρ2 i | none => ρ j) else ρ2 (σ.length + (j - n))
theorem sg_at {σ : List Nat} {ρ : PR} {i j : Nat} (h : σ[i]? = some j) : sgR (σ.map some) ρ i = ρ j := by
  unfold sgR
  rw [List.getElem?_map, h]; rfl
theorem sg_of {σ : List Nat} {ρ : PR} {i : Nat} {x : Option (Nat × Nat)} (h : sgR (σ.map some) ρ i = some x) : ∃ j, σ[i]? = some j ∧ ρ j = some x := by
  unfold sgR at h
  rw [List.getElem?_map] at h
  cases hq : σ[i]? with
  | none => rw [hq] at h; cases h
  | some j => rw [hq] at h; exact ⟨j, rfl, h⟩
theorem renB_ok {κ : Nat → Nat} {ρc : PR} (hκ : ∀ i x, ρc i = some x → ρ (κ i) = some x) {i j : Nat} {C : PB} (hj : κ i = j) (h : BOk F ρc H i C) (hv : rokB C = true) : BOk F ρ H j (renB κ C) := by
  subst hj
  cases C with
  | dead => trivial
  | loop => trivial
  | cel cs =>
    obtain ⟨a, e, vs, q1, q2, q3, q4, q5⟩ := h
    exact ⟨a, e, vs, hκ _ _ q1, q2, q3, q4, ren1s_ok hκ q5 hv⟩
  | vec sz n f full =>
    rcases h with ⟨q1, q2⟩ | ⟨a, ce, vs, q1, q2⟩
    · exact .inl ⟨hκ _ _ q1, q2⟩
    · exact .inr ⟨a, ce, vs, hκ _ _ q1, q2⟩
/-- What a call on some of one's own blocks leaves. -/
theorem part_ok {σ fz : List Nat} {args args' : List PV} {hpc hpc' : PH} {F2 : Nat → Prop} {ρ2 : PR} {H2 : AH V} (hr : Rel F ρ hp ds H) (hw : Weak [] (σ.map some) fz args hp args' hpc) (hσ : liveIn hp σ = true)
    (a1 : PExt (frzF F ρ hp fz) (sgR (σ.map some) ρ) [] H F2 ρ2 [] H2) (a2 : ∀ b x, b ∈ List.range σ.length → sgR (σ.map some) ρ b = some x → ρ2 b = some x) (a3 : Rel F2 ρ2 hpc' [] H2) (hb : hpc'.all rokB = true) (hlen : σ.length ≤ hpc'.length) :
    (∀ i x, ρ2 i = some x → sigR σ hp.length ρ ρ2 (kap σ hp.length i) = some x) ∧ PExt F ρ ds H F2 (sigR σ hp.length ρ ρ2) ds H2 ∧ RLe' ρ (sigR σ hp.length ρ ρ2) ∧ Rel F2 (sigR σ hp.length ρ ρ2) (emb σ fz hp hpc') ds H2 ∧
    (∀ b B a e, hp[b]? = some B → B ≠ .dead → b ∉ σ → ρ b = some (some (a, e)) → Vec.get H2 a = Vec.get H a) ∧ (∀ b B, b ∉ σ → b ∉ fz → hp[b]? = some B → (emb σ fz hp hpc')[b]? = some B) := by
  have hlive : ∀ j, j ∈ σ → j < hp.length ∧ ∃ B, hp[j]? = some B ∧ B ≠ .dead := fun j hj => by
    have := List.all_eq_true.1 hσ j hj
    split at this
    · cases this
    · next B hne e => exact ⟨(List.getElem?_eq_some_iff.1 e).1, B, e, fun x => hne (x ▸ rfl)⟩
    · cases this
  have hnd : ∀ i i' j, σ[i]? = some j → σ[i']? = some j → i = i' := fun i i' j h1 h2 => sgInj_at hw.inj (i := j) (by rw [List.getElem?_map, h1]; rfl) (by rw [List.getElem?_map, h2]; rfl)
  have hκ : ∀ i, sigR σ hp.length ρ ρ2 (kap σ hp.length i) = ρ2 i := fun i => by
    unfold kap
    split
    · next j e =>
      have hj := (hlive j (List.mem_of_getElem? e)).1
      unfold sigR
      rw [if_pos hj]
      split
      · next i' e' => rw [hnd i' i j (inv_some e') e]
      · next e' => exact absurd (List.mem_of_getElem? e) (inv_none e')
    · next e =>
      have := List.getElem?_eq_none_iff.1 e
      unfold sigR
      rw [if_neg (by omega)]
      congr 1; omega
  have hownc : ∀ a, Own (sgR (σ.map some) ρ) a → ∃ j e, j ∈ σ ∧ ρ j = some (some (a, e)) := by
    rintro a ⟨i, e, h⟩
    obtain ⟨j, h1, h2⟩ := sg_of h
    exact ⟨j, e, List.mem_of_getElem? h1, h2⟩
  have hown1 : ∀ a, Own (sgR (σ.map some) ρ) a → Own ρ a := fun a h => by
    obtain ⟨j, e, _, h2⟩ := hownc a h
    exact ⟨j, e, h2⟩
  have hF1 : ∀ a, frzF F ρ hp fz a → F a ∨ Own ρ a := by
    rintro a (h | ⟨i, B, e, _, _, _, h⟩)
    · exact .inl h
    · exact .inr ⟨i, e, h⟩
  have hF2 : ∀ a, F2 a → F a ∨ Own ρ a ∨ Vec.size H ≤ a := fun a h => by
    rcases a1.fnew a h with x | x | x
    · rcases hF1 a x with y | y
      · exact .inl y
      · exact .inr (.inl y)
    · exact .inr (.inl (hown1 a x))
    · exact .inr (.inr x)
  have hown2 : ∀ a, Own ρ2 a → (∃ j e, j ∈ σ ∧ ρ j = some (some (a, e))) ∨ Vec.size H ≤ a := fun a h => by
    rcases a1.own a h with x | x
    · exact .inl (hownc a x)
    · exact .inr x
  have hown3 : ∀ a, Own (sigR σ hp.length ρ ρ2) a → Own ρ a ∨ Vec.size H ≤ a := by
    rintro a ⟨j, e, h⟩
    have lift : ∀ i, ρ2 i = some (some (a, e)) → Own ρ a ∨ Vec.size H ≤ a := fun i h => by
      rcases hown2 a ⟨i, e, h⟩ with ⟨j, e', _, x⟩ | x
      · exact .inl ⟨j, e', x⟩
      · exact .inr x
    unfold sigR at h
    split at h
    · split at h
      · exact lift _ h
      · exact .inl ⟨j, e, h⟩
    · exact lift _ h
  have hrl : RLe' ρ (sigR σ hp.length ρ ρ2) := fun j x h => by
    have hj : j < hp.length := Classical.byContradiction fun hn => by rw [hr.dom j (by omega)] at h; cases h
    unfold sigR
    rw [if_pos hj]
    split
    · next i e =>
      have h1 := inv_some e
      exact a2 i x (List.mem_range.2 (List.getElem?_eq_some_iff.1 h1).1) (by rw [sg_at h1]; exact h)
    · exact h
  have hkeep : ∀ a, a < Vec.size H → ¬ Own ρ a → Vec.get H2 a = Vec.get H a := fun a h1 h2 => a1.keep a h1 (fun x => h2 (hown1 a x)) (fun h => by cases h)
  have hge : ∀ b B a e, hp[b]? = some B → B ≠ .dead → b ∉ σ → ρ b = some (some (a, e)) → ¬ Own (sgR (σ.map some) ρ) a := fun b B a e h1 h2 h3 h4 x => by
    obtain ⟨j, e', y1, y2⟩ := hownc a x
    obtain ⟨_, C, z1, z2⟩ := hlive j y1
    have := hr.inj _ _ _ _ _ _ _ h1 z1 h2 z2 h4 y2
    subst this
    exact h3 y1
  have hget : ∀ b B a e, hp[b]? = some B → B ≠ .dead → b ∉ σ → ρ b = some (some (a, e)) → Vec.get H2 a = Vec.get H a := fun b B a e h1 h2 h3 h4 => a1.keep a (hr.own _ _ _ h4) (hge b B a e h1 h2 h3 h4) (fun h => by cases h)
  have hun : ∀ b B, b ∉ σ → b ∉ fz → hp[b]? = some B → (emb σ fz hp hpc')[b]? = some B := fun b B h1 h2 h3 => by
    have hb' : b < (emb σ fz hp hpc').length := by
      unfold emb; rw [putL_len]
      have := (List.getElem?_eq_some_iff.1 h3).1
      omega
    have h4 : (emb σ fz hp hpc')[b]? = some (emb σ fz hp hpc')[b] := List.getElem?_eq_getElem hb'
    rcases putL_at σ fz hp.length hpc' 0 hp b _ h4 with ⟨C, q1, q2⟩ | ⟨q1, _⟩
    · rw [h3] at q1; cases q1
      rw [h4, q2, Nat.zero_add]
      unfold putB
      split
      · next i e => exact absurd (List.mem_of_getElem? (inv_some e)) h1
      · have : fz.contains b = false := by simpa using h2
        rw [this]; rfl
    · have := (List.getElem?_eq_some_iff.1 h3).1
      omega
  -- where a live block of what is left comes from
  have hcase : ∀ b B, (emb σ fz hp hpc')[b]? = some B → B ≠ .dead → (∃ i C, hpc'[i]? = some C ∧ B = renB (kap σ hp.length) C ∧ kap σ hp.length i = b ∧ C ≠ .dead) ∨ (b ∉ σ ∧ b ∉ fz ∧ hp[b]? = some B ∧ sigR σ hp.length ρ ρ2 b = ρ b) := fun b B h hne => by
    rcases putL_at σ fz hp.length hpc' 0 hp b B h with ⟨C, q1, q2⟩ | ⟨q1, C, q2, q3⟩
    · rw [Nat.zero_add] at q2
      have hbl := (List.getElem?_eq_some_iff.1 q1).1
      unfold putB at q2
      split at q2
      · next i e =>
        split at q2
        · next D e' => exact .inl ⟨i, D, e', q2, by unfold kap; rw [inv_some e], fun x => hne (by rw [q2, x]; rfl)⟩
        · exact absurd q2 hne
      · next e =>
        cases hc : fz.contains b with
        | true => rw [hc] at q2; exact absurd q2 hne
        | false =>
          rw [hc] at q2
          simp only [cond_false] at q2
          exact .inr ⟨inv_none e, by simpa using hc, by rw [q2]; exact q1, by unfold sigR; rw [if_pos hbl, e]⟩
    · refine .inl ⟨_, C, q2, q3, ?_, fun x => hne (by rw [q3, x]; rfl)⟩
      unfold kap
      rw [List.getElem?_eq_none (by omega)]
      show hp.length + (σ.length + (b - hp.length) - σ.length) = b
      omega
  refine ⟨fun i x h => (hκ i).trans h, ⟨a1.size, fun a h => a1.fmono a (.inl h), fun a h => a1.fget a (.inl h), hF2, fun a h1 h2 _ => hkeep a h1 h2, hown3, fun d h => .inl h⟩, hrl, ⟨a3.fsz, ?_, ?_, ?_, ?_, ?_, hr.nd⟩, hget, hun⟩
  · intro b B h
    by_cases hne : B = .dead
    · subst hne; trivial
    rcases hcase b B h hne with ⟨i, C, q1, q2, q3, _⟩ | ⟨q1, q2, q3, q4⟩
    · rw [q2]
      exact renB_ok (fun i x h => (hκ i).trans h) q3 (a3.blk i C q1) (List.all_eq_true.1 hb C (List.mem_of_getElem? q1))
    · refine (hr.blk b B q3).mono' ⟨fun a h => a1.fmono a (.inl h), fun a h => a1.fget a (.inl h)⟩ hrl (fun x hx => by rw [q4]; exact hx) fun a e hne' he => ⟨fun x => ?_, hget b B a e q3 hne' q1 he⟩
      rcases a1.fnew a x with y | y | y
      · rcases y with y | ⟨i, D, e', z1, z2, z3, z4⟩
        · exact hr.live q3 hne' he y
        · have := hr.inj _ _ _ _ _ _ _ q3 z2 hne' z3 he z4
          subst this
          exact q2 z1
      · exact hge b B a e q3 hne' q1 he y
      · have := hr.own _ _ _ he
        omega
  · intro b b' B B' a e e' g1 g2 d1 d2 q1 q2
    have cross : ∀ i C b B e e', hpc'[i]? = some C → ρ2 i = some (some (a, e)) → b ∉ σ → hp[b]? = some B → B ≠ .dead → ρ b = some (some (a, e')) → False := fun i C b B e e' h1 h2 h3 h4 h5 h6 => by
      rcases hown2 a ⟨i, e, h2⟩ with ⟨j, e'', x1, x2⟩ | x
      · obtain ⟨_, D, z1, z2⟩ := hlive j x1
        have := hr.inj _ _ _ _ _ _ _ h4 z1 h5 z2 h6 x2
        subst this
        exact h3 x1
      · have := hr.own _ _ _ h6
        omega
    rcases hcase b B g1 d1 with ⟨i, C, x1, x2, x3, x4⟩ | ⟨x1, x2, x3, x4⟩
    · rw [← x3, hκ] at q1
      rcases hcase b' B' g2 d2 with ⟨i', C', y1, y2, y3, y4⟩ | ⟨y1, y2, y3, y4⟩
      · rw [← y3, hκ] at q2
        rw [← x3, ← y3, a3.inj _ _ _ _ _ _ _ x1 y1 x4 y4 q1 q2]
      · rw [y4] at q2
        exact (cross i C b' B' e e' x1 q1 y1 y3 d2 q2).elim
    · rw [x4] at q1
      rcases hcase b' B' g2 d2 with ⟨i', C', y1, y2, y3, y4⟩ | ⟨y1, y2, y3, y4⟩
      · rw [← y3, hκ] at q2
        exact (cross i' C' b B e' e y1 q2 x1 x3 d1 q1).elim
      · rw [y4] at q2
        exact hr.inj _ _ _ _ _ _ _ x3 y3 d1 d2 q1 q2
  · intro b h
    unfold emb at h
    rw [putL_len] at h
    unfold sigR
    rw [if_neg (by omega)]
    exact a3.dom _ (by omega)
  · intro b a e h
    rcases hown3 a ⟨b, e, h⟩ with ⟨j, e', x⟩ | x
    · exact Nat.lt_of_lt_of_le (hr.own _ _ _ x) a1.size
    · unfold sigR at h
      split at h
      · split at h
        · exact a3.own _ _ _ h
        · exact Nat.lt_of_lt_of_le (hr.own _ _ _ h) a1.size
      · exact a3.own _ _ _ h
  · intro d hd
    obtain ⟨q1, q2, q3⟩ := hr.dfr d hd
    have hdl := Vec.get_lt _ _ _ q1
    refine ⟨(hkeep d hdl q3).trans q1, fun x => ?_, fun x => ?_⟩
    · rcases hF2 d x with y | y | y
      · exact q2 y
      · exact q3 y
      · omega
    · rcases hown3 d x with y | y
      · exact q3 y
      · omega
/-- A call of a function that works on some of one's own blocks alone. -/
theorem prg_scall {fs : Src} {args : List Src} {gd : Option (Src × Bool)} {lo : Nat} {g : FuncId} {first cap vs args' : List PV} {hpc : PH} {Qf : PV → PH → Prop} (σ fz : List Nat) (h1 : psev T st.L fs = some (.fn g first cap)) (h2 : pevs (psev T st.L) args = some vs) (hg : pwanted T st.L gd = some true)
    (hw : Weak [] (σ.map some) fz (first ++ vs ++ cap) st.hp args' hpc) (hσ : liveIn st.hp σ = true)
    (hc : PCall E (List.range σ.length) g args' hpc Qf) (hk : ∀ v hpc', Qf v hpc' → rok2 v = true ∧ hpc'.all rokB = true ∧ σ.length ≤ hpc'.length ∧ PRg E p dr T ops l0 ⟨ren2 (kap σ st.hp.length) v :: st.L, false :: st.O, emb σ fz st.hp hpc', σ ++ fz ++ st.md, st.cnt + 1⟩ Q) : PRg E p dr T (⟨.call fs args, gd, lo⟩ :: ops) l0 st Q := by
  intro F0 ρ0 hp0 H0 F ρ H ds Ta La sn hr hd
  have hev := sev_ok (hd.T.mono hd.fle hd.rle) hd.L
  obtain ⟨fw, f1, f2⟩ := hev _ _ h1
  obtain ⟨ws, w1, w2⟩ := evs_ok hev h2
  cases f2 with
  | fr h => cases h
  | @fn _ _ _ lf lc hl hlr hm hmr =>
  refine prg_does hr hd (wanted_ok hev hg) (does_call f1 w1 ?_)
  have hargs : PRels F ρ H (first ++ vs ++ cap) (lf ++ ws ++ lc) := (PRels.append (PRels.append ⟨hl, hlr⟩ w2) ⟨hm, hmr⟩)
  have hr0 : Rel F ρ st.hp [] H := ⟨hr.fsz, hr.blk, hr.inj, hr.dom, hr.own, (fun d h => nomatch h), List.nodup_nil⟩
  obtain ⟨_, _, b3, b4⟩ := weak_at hr0 hargs hw
  refine (hc _ _ H _ b3 b4).mono fun r hg => ?_
  obtain ⟨F2, ρ2, hpc', v, a1, a2, a3, a4, a5⟩ := hg
  obtain ⟨k1, k2, k3, k4⟩ := hk v hpc' a5
  obtain ⟨c1, c2, c3, c4, c5, c6⟩ := part_ok hr hw hσ a1 a2 a3 k2 k3
  exact ⟨F2, _, _, _, c2, c3, c4, ren2_ok c1 a4 k1, false, σ ++ fz ++ st.md, fun m hm => List.mem_append_right _ hm, (fun h => nomatch h), fun b B a e q1 q2 q3 q4 => c5 b B a e q1 q2 (fun x => q3 (List.mem_append_left _ (List.mem_append_left _ x))) q4, fun b B _ q2 q3 => c6 b B (fun x => q2 (List.mem_append_left _ (List.mem_append_left _ x))) (fun x => q2 (List.mem_append_left _ (List.mem_append_right _ x))) q3, (fun _ => rfl), k4⟩
/-- The same, with what is left and what is written over written out. -/
theorem g_scall {fs : Src} {args : List Src} {gd : Option (Src × Bool)} {lo : Nat} {g : FuncId} {first cap vs args' : List PV} {hpc : PH} {Qf : PV → PH → Prop} (σ fz : List Nat) (hc : PCall E (List.range σ.length) g args' hpc Qf) (hw : Weak [] (σ.map some) fz (first ++ vs ++ cap) st.hp args' hpc)
    (hk : ∀ v hpc', Qf v hpc' → rok2 v = true ∧ hpc'.all rokB = true ∧ σ.length ≤ hpc'.length ∧ PRg E p dr T ops l0 ⟨ren2 (kap σ st.hp.length) v :: st.L, false :: st.O, emb σ fz st.hp hpc', σ ++ fz ++ st.md, st.cnt + 1⟩ Q)
    (h1 : psev T st.L fs = some (.fn g first cap) := by rfl) (h2 : pevs (psev T st.L) args = some vs := by rfl) (hσ : liveIn st.hp σ = true := by rfl) (hg : pwanted T st.L gd = some true := by rfl) : PRg E p dr T (⟨.call fs args, gd, lo⟩ :: ops) l0 st Q := prg_scall σ fz h1 h2 hg hw hσ hc hk
end
end Go.Proofs.Ytollibkfagjnaaa.AM

/- Drawn regions where a call writes a block of which other cells are read unordered. -/
namespace Go.Proofs.Ytollibkfagjnaaa.AM
section
variable {V : Type → Type} [Vec V] {E : Env V} {F F' F0 : Nat → Prop} {ρ ρ' ρ0 : PR} {H H' H0 : AH V} {hp hp' hp0 : PH} {ds ds' : List Nat} {T L : List PV} {Ta La : List Value} {l0 : Nat} {st st' : PS} {sn : List (AH V)} {o : AOper} {ops : List AOper} {Q : List PV → PH → Prop} {inR : Bool} {p : List Nat} {a b c : ACode} {R : AE → List PV → PH → Prop} {X : PR → AH V → Prop}
/-- What the rest of a drawn region comes to, where of all that was so far X holds. -/
def PRgX (X : PR → AH V → Prop) (E : Env V) (p : List Nat) (T : List PV) (ops : List AOper) (l0 : Nat) (st : PS) (Q : List PV → PH → Prop) : Prop :=
  ∀ (F0 : Nat → Prop) (ρ0 : PR) (hp0 : PH) (H0 : AH V) (F : Nat → Prop) (ρ : PR) (H : AH V) (ds : List Nat) (Ta La : List Value) (sn : List (AH V)), Rel F ρ st.hp ds H → DI F0 ρ0 hp0 H0 l0 F ρ H T Ta st La sn → (∀ K, K ∈ H :: sn → X ρ0 K) → ADraws E Ta ops sn La H (GPost p T Ta F ρ ds H Q)
theorem x_drop (h : PRg E p true T ops l0 st Q) : PRgX X E p T ops l0 st Q := fun F0 ρ0 hp0 H0 F ρ H ds Ta La sn hr hd _ => by
  have := h F0 ρ0 hp0 H0 F ρ H ds Ta La sn hr hd
  rwa [if_pos rfl] at this
theorem prgx_does {o : AOper} {ops : List AOper} {Q : List PV → PH → Prop} (hr : Rel F ρ st.hp ds H) (hd : DI F0 ρ0 hp0 H0 l0 F ρ H T Ta st La sn) (hX : ∀ K, K ∈ H :: sn → X ρ0 K) (hw : awanted Ta La o.g = true)
    (h : ADoes E Ta La o.op H fun w H' => ∃ F' ρ' v hp', PExt F ρ ds H F' ρ' ds H' ∧ RLe' ρ ρ' ∧ Rel F' ρ' hp' ds H' ∧ PRel F' ρ' H' v w ∧ X ρ0 H' ∧ ∃ (b : Bool) (md : List Nat), (∀ m, m ∈ st.md → m ∈ md) ∧ (b = true → PRel F0 ρ0 H0 v w) ∧
      (∀ b B a e, st.hp[b]? = some B → B ≠ .dead → b ∉ md → ρ b = some (some (a, e)) → Vec.get H' a = Vec.get H a) ∧ (∀ b B, b < l0 → b ∉ md → st.hp[b]? = some B → hp'[b]? = some B) ∧
      loadOk Ta La sn o.lo o.op w = true ∧ PRgX X E p T ops l0 ⟨v :: st.L, b :: st.O, hp', md, bif isEff o.op then st.cnt + 1 else st.cnt⟩ Q) :
    ADraws E Ta (o :: ops) sn La H (GPost p T Ta F ρ ds H Q) := by
  have next_ : ∀ (w : Value) (H' : AH V), (∃ F' ρ' v hp', PExt F ρ ds H F' ρ' ds H' ∧ RLe' ρ ρ' ∧ Rel F' ρ' hp' ds H' ∧ PRel F' ρ' H' v w ∧ X ρ0 H' ∧ ∃ (b : Bool) (md : List Nat), (∀ m, m ∈ st.md → m ∈ md) ∧ (b = true → PRel F0 ρ0 H0 v w) ∧
      (∀ b B a e, st.hp[b]? = some B → B ≠ .dead → b ∉ md → ρ b = some (some (a, e)) → Vec.get H' a = Vec.get H a) ∧ (∀ b B, b < l0 → b ∉ md → st.hp[b]? = some B → hp'[b]? = some B) ∧
      loadOk Ta La sn o.lo o.op w = true ∧ PRgX X E p T ops l0 ⟨v :: st.L, b :: st.O, hp', md, bif isEff o.op then st.cnt + 1 else st.cnt⟩ Q) →
      loadOk Ta La sn o.lo o.op w = true ∧ Vec.size H ≤ Vec.size H' ∧ ADraws E Ta ops (bif isEff o.op then H' :: sn else sn) (w :: La) H' (GPost p T Ta F ρ ds H Q) := by
    rintro w H' ⟨F', ρ', v, hp', hx, hl, hr', hv, hxn, b, md, hmd, hb, hst, hun, hlo, hP⟩
    refine ⟨hlo, hx.size, ?_⟩
    have hmem : ∀ K, K ∈ H' :: (bif isEff o.op then H' :: sn else sn) → K = H' ∨ K ∈ H :: sn := fun K hK => by
        cases he : isEff o.op
        · rw [he] at hK
          simp only [cond_false, List.mem_cons] at hK ⊢
          rcases hK with h | h
          · exact .inl h
          · exact .inr (.inr h)
        · rw [he] at hK
          simp only [cond_true, List.mem_cons] at hK ⊢
          rcases hK with h | h | h
          · exact .inl h
          · exact .inl h
          · exact .inr (.inr h)
    have hd' : DI F0 ρ0 hp0 H0 l0 F' ρ' H' T Ta ⟨v :: st.L, b :: st.O, hp', md, bif isEff o.op then st.cnt + 1 else st.cnt⟩ (w :: La) (bif isEff o.op then H' :: sn else sn) := by
      have hnew : (∀ a, F0 a → Vec.get H' a = Vec.get H0 a) ∧ ∀ b B a e, b < l0 → b ∉ md → hp0[b]? = some B → B ≠ .dead → ρ0 b = some (some (a, e)) → Vec.get H' a = Vec.get H0 a := by
        obtain ⟨q1, q2⟩ := hd.sn H (List.mem_cons_self ..)
        refine ⟨fun a ha => (hx.fget a (hd.fle.mono a ha)).trans (q1 a ha), fun b B a e h1 h2 h3 h4 h5 => ?_⟩
        have hbm : b ∉ st.md := fun x => h2 (hmd b x)
        exact (hst b B a e ((hd.un b h1 hbm).trans h3) h4 h2 (hd.rle _ _ h5)).trans (q2 b B a e h1 hbm h3 h4 h5)
      refine ⟨hd.fle.trans hx.fle, fun b x q => hl b x (hd.rle b x q), hd.hh, hd.T, .cons hv (hd.L.mono hx.fle hl), ?_, ?_, hd.len, ?_, ?_⟩
      · intro d u w' h1 h2 h3
        cases d with
        | zero =>
          simp only [List.getElem?_cons_zero, Option.some.injEq] at h1 h2 h3
          subst h1; subst h2; subst h3
          exact hb rfl
        | succ d =>
          simp only [List.getElem?_cons_succ] at h1 h2 h3
          exact hd.O d u w' h1 h2 h3
      · cases isEff o.op
        · exact hd.cnt
        · simp [hd.cnt]
      · intro b B h1 h2 h3
        exact hun b B h1 h2 (hd.un' b B h1 (fun x => h2 (hmd b x)) h3)
      · intro K hK
        have := hmem K hK
        rcases this with rfl | h
        · exact hnew
        · obtain ⟨q1, q2⟩ := hd.sn K h
          exact ⟨q1, fun b B a e h1 h2 h3 h4 h5 => q2 b B a e h1 (fun x => h2 (hmd b x)) h3 h4 h5⟩
    have := hP F0 ρ0 hp0 H0 F' ρ' H' ds Ta (w :: La) _ hr' hd' fun K hK => by
      rcases hmem K hK with rfl | h
      · exact hxn
      · exact hX K h
    exact this.mono fun L H hg => hg.step hx (fun b x _ q => hl b x q)
  obtain ⟨n, w, H', h1, h2⟩ := h
  obtain ⟨n1, n2, n3⟩ := next_ w H' h2
  exact draws_cons hw ⟨n, w, H', h1, n1, n2, n3⟩
/-- A value of which one can tell that it is the same one. -/
def Det (ρ : PR) : PV → Value → Prop
  | .s v, x => x = v
  | .vec _ b n, x => (∃ a ce, ρ b = some (some (a, ce)) ∧ x = .slice (some ⟨a, 0, none⟩) n ce) ∨ (ρ b = some none ∧ x = .slice none 0 0)
  | _, _ => False
def detOk : PV → Bool
  | .s _ => true
  | .vec _ _ _ => true
  | _ => false
theorem det_of {v : PV} {x : Value} (h : PRel F ρ H v x) (hv : detOk v = true) : Det ρ v x := by
  cases v with
  | s v => exact h.s_inv
  | vec sz b n =>
    cases h with
    | fr h => cases h
    | vec h hn => exact .inl ⟨_, _, h, rfl⟩
    | vecz h hn => exact .inr ⟨h, rfl⟩
  | _ => cases hv
theorem det_mono {v : PV} {x : Value} (h : Det ρ v x) (hr : RLe' ρ ρ') : Det ρ' v x := by
  cases v with
  | s v => exact h
  | vec sz b n =>
    rcases h with ⟨a, ce, h1, h2⟩ | ⟨h1, h2⟩
    · exact .inl ⟨a, ce, hr _ _ h1, h2⟩
    · exact .inr ⟨hr _ _ h1, h2⟩
  | _ => cases h
theorem det_uniq {v : PV} {x y : Value} (h : Det ρ v x) (k : Det ρ v y) : x = y := by
  cases v with
  | s v => exact h.trans k.symm
  | vec sz b n =>
    rcases h with ⟨a, ce, h1, h2⟩ | ⟨h1, h2⟩ <;> rcases k with ⟨a', ce', k1, k2⟩ | ⟨k1, k2⟩
    · rw [h1] at k1; cases k1; rw [h2, k2]
    · rw [h1] at k1; cases k1
    · rw [h1] at k1; cases k1
    · rw [h2, k2]
  | _ => cases h
/-- Cells of a block that stay. -/
def XC (b : Nat) (cs : List (Nat × PV)) (ρ : PR) (K : AH V) : Prop := ∃ a e vs, ρ b = some (some (a, e)) ∧ Vec.get K a = some (.arr vs true 0) ∧ ∀ off v, (off, v) ∈ cs → ∃ x, vs[off]? = some x ∧ Det ρ v x
theorem x_start {b : Nat} {cs : List (Nat × PV)} {l : List PV} (hk : PRgX (XC b cs) E p T ops l0 st Q) (hb : st.hp[b]? = some (.cel l)) (hl : b < l0) (hm : b ∉ st.md) (hc : ∀ off v, (off, v) ∈ cs → l[off]? = some v ∧ detOk v = true) : PRg E p true T ops l0 st Q := by
  intro F0 ρ0 hp0 H0 F ρ H ds Ta La sn hr hd
  rw [if_pos rfl]
  refine hk F0 ρ0 hp0 H0 F ρ H ds Ta La sn hr hd fun K hK => ?_
  have h0 : hp0[b]? = some (.cel l) := by rw [← hd.un b hl hm]; exact hb
  obtain ⟨a, e, vs, q1, q2, q3, q4, q5⟩ := hd.hh b _ h0
  refine ⟨a, e, vs, q1, ((hd.sn K hK).2 b _ a e hl hm h0 (by simp) q1).trans q3, fun off v hv => ?_⟩
  obtain ⟨c1, c2⟩ := hc off v hv
  obtain ⟨x, r1, r2⟩ := q5.get c1
  exact ⟨x, r1, det_of r2 c2⟩
/-- A value, where nothing is written. -/
theorem x_v {v : PV} {q : Prop} {op : AOp Src} {lo : Nat} {O : List Bool} {md : List Nat} {cnt : Nat} (hP : PRgX X E p T ops l0 ⟨v :: L, opO l0 ⟨L, O, hp, md, cnt⟩ T op :: O, hp, md, cnt⟩ Q) (h : pval op (psev T L) hp = some (v, q) := by rfl) (hq : q := by (try simp only [in64, and_true, true_and]); (try omega)) (hl : plOk l0 ⟨L, O, hp, md, cnt⟩ T lo op v = true := by rfl) : PRgX X E p T (⟨op, none, lo⟩ :: ops) l0 ⟨L, O, hp, md, cnt⟩ Q := by
  intro F0 ρ0 hp0 H0 F ρ H ds Ta La sn hr hd hX
  have hev := sev_ok (hd.T.mono hd.fle hd.rle) hd.L
  obtain ⟨w, h1, h2⟩ := val_ok (P := E.P) (cl := fun _ _ _ => none) hev hr.blk h hq
  refine prgx_does hr hd hX rfl (does_op w H h1 ⟨F, ρ, v, hp, .refl, fun _ _ h => h, hr, h2, hX H (List.mem_cons_self ..), opO l0 ⟨L, O, hp, md, cnt⟩ T op, md, fun _ h => h, (fun hO => opO_ok hd hO h hq h1), fun _ _ _ _ _ _ _ _ => rfl, fun _ _ _ _ h => h, loadOk_fresh hd hl h hq h1, ?_⟩)
  simp only [not_eff h]
  exact hP
/-- A cell that stays. -/
theorem x_load {v v0 : PV} {q : Prop} {a : Src} {lo b off : Nat} {cs : List (Nat × PV)} {O : List Bool} {md : List Nat} {cnt : Nat} (hP : PRgX (XC b cs) E p T ops l0 ⟨v :: L, false :: O, hp, md, cnt⟩ Q) (ha : psev T L a = some (.ptr b off) := by rfl) (h : pload hp none (psev T L a) = some (v, q) := by rfl) (hm : (off, v0) ∈ cs := by simp) (hv : vq v = true := by rfl) (hq : q := by trivial) : PRgX (XC b cs) E p T (⟨.load none a, none, lo⟩ :: ops) l0 ⟨L, O, hp, md, cnt⟩ Q := by
  intro F0 ρ0 hp0 H0 F ρ H ds Ta La sn hr hd hX
  have hev := sev_ok (hd.T.mono hd.fle hd.rle) hd.L
  obtain ⟨w, h1, h2⟩ := load_ok hev hr.blk none a v q h hq
  obtain ⟨pw, p1, p2⟩ := hev _ _ ha
  cases p2 with
  | fr h => cases h
  | @ptr _ _ a0 e0 hρ =>
  have hl : ∀ K, K ∈ H :: sn → aload K none (.pointer (some ⟨a0, off, none⟩)) = some w := fun K hK => by
    obtain ⟨a1, e1, vs, r1, r2, r3⟩ := hX K hK
    obtain ⟨a2, e2, vs', s1, s2, s3⟩ := hX H (List.mem_cons_self ..)
    rw [hd.rle _ _ r1] at hρ; cases hρ
    rw [r1] at s1; cases s1
    obtain ⟨x, t1, t2⟩ := r3 off v0 hm
    obtain ⟨y, u1, u2⟩ := s3 off v0 hm
    have hxy := det_uniq t2 u2
    have e1' : x1 (aload H none) (sev Ta La) a = some y := by
      simp only [x1, p1]
      exact aload_of s2 u1
    rw [e1'] at h1; cases h1
    rw [← hxy]
    exact aload_of r2 t1
  refine prgx_does hr hd hX rfl (does_op w H ?_ ⟨F, ρ, v, hp, .refl, fun _ _ h => h, hr, h2, hX H (List.mem_cons_self ..), false, md, fun _ h => h, (fun hO => nomatch hO), fun _ _ _ _ _ _ _ _ => rfl, fun _ _ _ _ h => h, loadOk_of p1 (vq_ok h2 hv) fun K hK => hl K (List.mem_cons_of_mem _ (List.mem_of_mem_drop (List.mem_of_mem_take hK))), hP⟩)
  simp only [aexec, h1, withH]
/-- What makes a block. -/
theorem x_e {v : PV} {q : Prop} {op : AOp Src} {lo b : Nat} {B : PB} {cs : List (Nat × PV)} {O : List Bool} {md : List Nat} {cnt : Nat} (hP : PRgX (XC b cs) E p T ops l0 ⟨v :: L, false :: O, hp', pmod op (psev T L) ++ md, bif isEff op then cnt + 1 else cnt⟩ Q) (h : peff op (psev T L) hp = some (v, hp', q) := by rfl) (hb : hp[b]? = some B := by rfl) (hne : B ≠ .dead := by simp) (hm : b ∉ pmod op (psev T L) := by decide) (hq : q := by (try simp only [in64, and_true, true_and]); (try omega)) (hh : isHeap op = true := by rfl) : PRgX (XC b cs) E p T (⟨op, none, lo⟩ :: ops) l0 ⟨L, O, hp, md, cnt⟩ Q := by
  intro F0 ρ0 hp0 H0 F ρ H ds Ta La sn hr hd hX
  have hev := sev_ok (hd.T.mono hd.fle hd.rle) hd.L
  obtain ⟨w, H', ρ', h1, h2, h3, h4⟩ := eff_ok (P := E.P) (cl := fun _ _ _ => none) hr hev h hq
  refine prgx_does hr hd hX rfl (does_op w H' h1 ⟨F, ρ', v, hp', h2.ext, h2.le, h2.rel, h3, ?_, false, _, fun m hm => List.mem_append_right _ hm, (fun h => nomatch h), ?_, ?_, isHeap_load hh _ _ _ _ _, hP⟩)
  · obtain ⟨a1, e1, vs, r1, r2, r3⟩ := hX H (List.mem_cons_self ..)
    exact ⟨a1, e1, vs, r1, (h4 b B a1 e1 hb hne hm (hd.rle _ _ r1)).trans r2, r3⟩
  · intro b B a e' q1 q2 q3 q4
    exact h4 b B a e' q1 q2 (fun x => q3 (List.mem_append_left _ x)) q4
  · intro b B q1 q2 q3
    rw [peff_un h (List.getElem?_eq_some_iff.1 q3).1 fun x => q2 (List.mem_append_left _ x)]
    exact q3
/-- The row that was just made, frozen. -/
theorem x_fz {sz b n m k : Nat} {f row : Nat → List PV} {full o : Bool} {O : List Bool} {md : List Nat} {cnt : Nat} (hf : ∀ i, i < k → f i = row i) (hP : PRgX X E p T ops l0 ⟨.frz sz n k row :: L, false :: O, hp', md, cnt⟩ Q)
    (hb : hp[b]? = some (.vec sz m f full) := by rfl) (hs : hp.set b .dead = hp' := by rfl) (hl : l0 ≤ b := by first | exact Nat.le_refl _ | exact Nat.le_of_ble_eq_true rfl | omega) (h1 : n ≤ k := by first | exact Nat.le_refl _ | decide | omega) (h2 : k ≤ m := by first | exact Nat.le_refl _ | decide | omega) : PRgX X E p T ops l0 ⟨.vec sz b n :: L, o :: O, hp, md, cnt⟩ Q := by
  subst hs
  intro F0 ρ0 hp0 H0 F ρ H ds Ta La sn hr hd hX
  obtain ⟨r1, r2, r3⟩ := rel_fz hr hb (by simp)
  have hlr : RLe' ρ ρ := fun _ _ h => h
  have hL : PRels (frzF F ρ hp [b]) ρ H (.frz sz n k row :: L) La := ⟨hd.L.len, fun j c w q1 q2 => by
    cases j with
    | zero =>
      simp only [List.getElem?_cons_zero, Option.some.injEq] at q1
      subst q1
      have := vsub1_ok (σ := (List.range hp.length).map some) (fz := [b]) hr (VSub1.vecf (σ := (List.range hp.length).map some) (n := n) (k := k) (row := row) (by simp) hb rfl h1 h2 hf) (hd.L.at' 0 _ w rfl q2)
      exact .fr this.frz_inv
    | succ j => exact (hd.L.at' (j + 1) c w q1 q2).mono r3 hlr⟩
  have key := hP F0 ρ0 hp0 H0 _ ρ H ds Ta La sn r1 ⟨⟨fun a h => r3.mono _ (hd.fle.mono a h), hd.fle.get⟩, hd.rle, hd.hh, hd.T, hL, fun d u w q1 q2 q3 => by
    cases d with
    | zero => simp at q1
    | succ d => exact hd.O (d + 1) u w q1 q2 q3, hd.cnt, hd.len, fun b' B q1 q2 q3 => by
      have := hd.un' b' B q1 q2 q3
      show (hp.set b .dead)[b']? = some B
      rw [List.getElem?_set_ne (by omega)]
      exact this, hd.sn⟩ hX
  exact key.mono fun _ _ h => h.step r2 fun _ _ _ q => q
/-- A call of a function that has nothing to do with one's own: a value. -/
theorem x_call {fs : Src} {args : List Src} {lo : Nat} {g : FuncId} {first cap vs as_ : List PV} {Rv : PV → Prop} {b : Nat} {cs : List (Nat × PV)} {O : List Bool} {md : List Nat} {cnt : Nat} (hc : PFun E g as_ (valQ Rv)) (hk : ∀ v, Rv v → nlv v = true ∧ PRgX (XC b cs) E p T ops l0 ⟨v :: L, false :: O, hp, md, cnt + 1⟩ Q)
    (h1 : psev T L fs = some (.fn g first cap) := by rfl) (h2 : pevs (psev T L) args = some vs := by rfl) (ha : first ++ vs ++ cap = as_ := by rfl) (h3 : as_.all nlv = true := by rfl) : PRgX (XC b cs) E p T (⟨.call fs args, none, lo⟩ :: ops) l0 ⟨L, O, hp, md, cnt⟩ Q := by
  subst ha
  intro F0 ρ0 hp0 H0 F ρ H ds Ta La sn hr hd hX
  have hev := sev_ok (hd.T.mono hd.fle hd.rle) hd.L
  obtain ⟨fw, f1, f2⟩ := hev _ _ h1
  obtain ⟨ws, w1, w2⟩ := evs_ok hev h2
  cases f2 with
  | fr h => cases h
  | @fn _ _ _ lf lc hl hlr hm hmr =>
  refine prgx_does hr hd hX rfl (does_call f1 w1 ?_)
  have hargs : PRels F ρ H (first ++ vs ++ cap) (lf ++ ws ++ lc) := (PRels.append (PRels.append ⟨hl, hlr⟩ w2) ⟨hm, hmr⟩)
  refine (hc F none_ H _ (rel_none hr.fsz) (nlvs_ok hargs h3)).mono fun r hg => ?_
  obtain ⟨F', ρc, hpc, v, a1, _, a3, a4, rfl, a5⟩ := hg
  obtain ⟨k1, k2⟩ := hk v a5
  have hkeep : ∀ a, a < Vec.size H → Vec.get r.H a = Vec.get H a := fun a ha => a1.keep a ha (fun ⟨b, e, h⟩ => by cases h) (fun h => by cases h)
  have hfn : ∀ a, F' a → a < Vec.size H → F a := fun a h1 h2 => by
    rcases a1.fnew a h1 with x | ⟨b, e, x⟩ | x
    · exact x
    · cases x
    · omega
  have hrr : Rel F' ρ hp ds r.H := ⟨a3.fsz, fun b B h => (hr.blk b B h).mono' a1.fle (fun _ _ h => h) (fun _ h => h) fun a e hne he => ⟨fun x => hr.live h hne he (hfn a x (hr.own _ _ _ he)), hkeep a (hr.own _ _ _ he)⟩, hr.inj, hr.dom, fun b a e h => Nat.lt_of_lt_of_le (hr.own _ _ _ h) a1.size, fun d hd => by
    obtain ⟨q1, q2, q3⟩ := hr.dfr d hd
    have hdl := Vec.get_lt _ _ _ q1
    exact ⟨(hkeep d hdl).trans q1, fun x => q2 (hfn d x hdl), q3⟩, hr.nd⟩
  refine ⟨F', ρ, v, hp, ⟨a1.size, a1.fmono, a1.fget, fun a h => ?_, fun a q1 _ _ => hkeep a q1, fun a h => .inl h, fun d h => .inl h⟩, fun _ _ h => h, hrr, nlv_ok a4 k1, ?_, false, md, fun _ h => h, (fun h => nomatch h), fun b B a e _ _ _ h => hkeep a (hr.own _ _ _ h), fun b B _ _ h => h, rfl, k2⟩
  · rcases a1.fnew a h with x | ⟨b, e, x⟩ | x
    · exact .inl x
    · cases x
    · exact .inr (.inr x)
  · obtain ⟨a1', e1, vs, r1, r2, r3⟩ := hX H (List.mem_cons_self ..)
    exact ⟨a1', e1, vs, r1, (hkeep _ (hr.own _ _ _ (hd.rle _ _ r1))).trans r2, r3⟩
/-- A call that writes other cells of the block. -/
theorem x_scall {fs : Src} {args : List Src} {lo : Nat} {g : FuncId} {first cap vs args' : List PV} {hpc : PH} {Qf : PV → PH → Prop} {b : Nat} {cs : List (Nat × PV)} {O : List Bool} {md : List Nat} {cnt : Nat} (σ fz : List Nat) (hc : PCall E (List.range σ.length) g args' hpc Qf) (hw : Weak [] (σ.map some) fz (first ++ vs ++ cap) hp args' hpc)
    (hk : ∀ v hpc', Qf v hpc' → rok2 v = true ∧ hpc'.all rokB = true ∧ σ.length ≤ hpc'.length ∧ (∃ l, (emb σ fz hp hpc')[b]? = some (.cel l) ∧ ∀ off u, (off, u) ∈ cs → l[off]? = some u ∧ detOk u = true) ∧ PRgX (XC b cs) E p T ops l0 ⟨ren2 (kap σ hp.length) v :: L, false :: O, emb σ fz hp hpc', σ ++ fz ++ md, cnt + 1⟩ Q)
    (h1 : psev T L fs = some (.fn g first cap) := by rfl) (h2 : pevs (psev T L) args = some vs := by rfl) (hσ : liveIn hp σ = true := by rfl) : PRgX (XC b cs) E p T (⟨.call fs args, none, lo⟩ :: ops) l0 ⟨L, O, hp, md, cnt⟩ Q := by
  intro F0 ρ0 hp0 H0 F ρ H ds Ta La sn hr hd hX
  have hev := sev_ok (hd.T.mono hd.fle hd.rle) hd.L
  obtain ⟨fw, f1, f2⟩ := hev _ _ h1
  obtain ⟨ws, w1, w2⟩ := evs_ok hev h2
  cases f2 with
  | fr h => cases h
  | @fn _ _ _ lf lc hl hlr hm hmr =>
  refine prgx_does hr hd hX rfl (does_call f1 w1 ?_)
  have hargs : PRels F ρ H (first ++ vs ++ cap) (lf ++ ws ++ lc) := (PRels.append (PRels.append ⟨hl, hlr⟩ w2) ⟨hm, hmr⟩)
  have hr0 : Rel F ρ hp [] H := ⟨hr.fsz, hr.blk, hr.inj, hr.dom, hr.own, (fun d h => nomatch h), List.nodup_nil⟩
  obtain ⟨_, _, b3, b4⟩ := weak_at hr0 hargs hw
  refine (hc _ _ H _ b3 b4).mono fun r hg => ?_
  obtain ⟨F2, ρ2, hpc', v, a1, a2, a3, a4, a5⟩ := hg
  obtain ⟨k1, k2, k3, ⟨l, l1, l2⟩, k4⟩ := hk v hpc' a5
  obtain ⟨c1, c2, c3, c4, c5, c6⟩ := part_ok hr hw hσ a1 a2 a3 k2 k3
  refine ⟨F2, _, _, _, c2, c3, c4, ren2_ok c1 a4 k1, ?_, false, σ ++ fz ++ md, fun m hm => List.mem_append_right _ hm, (fun h => nomatch h), fun b B a e q1 q2 q3 q4 => c5 b B a e q1 q2 (fun x => q3 (List.mem_append_left _ (List.mem_append_left _ x))) q4, fun b B _ q2 q3 => c6 b B (fun x => q2 (List.mem_append_left _ (List.mem_append_left _ x))) (fun x => q2 (List.mem_append_left _ (List.mem_append_right _ x))) q3, rfl, k4⟩
  obtain ⟨a0, e0, vs0, r1, r2, r3⟩ := hX H (List.mem_cons_self ..)
  obtain ⟨a', e', vs', s1, s2, s3, s4, s5⟩ := c4.blk b _ l1
  have hle : RLe' ρ0 (sigR σ hp.length ρ ρ2) := fun b x h => c3 b x (hd.rle b x h)
  rw [hle _ _ r1] at s1; cases s1
  refine ⟨a0, e0, vs', r1, s3, fun off u hu => ?_⟩
  obtain ⟨t1, t2⟩ := l2 off u hu
  obtain ⟨y, y1, y2⟩ := s5.get t1
  obtain ⟨x, x1, x2⟩ := r3 off u hu
  have := det_uniq (det_of y2 t2) (det_mono x2 hle)
  subst this
  exact ⟨_, y1, x2⟩
end
end Go.Proofs.Ytollibkfagjnaaa.AM

/- Rows of rows, more than one: each has blocks of its own. -/
namespace Go.Proofs.Ytollibkfagjnaaa.AM
section
variable {V : Type → Type} [Vec V] {E : Env V} {F F' F0 : Nat → Prop} {ρ ρ' ρ0 : PR} {H H' H0 : AH V} {hp hp' hp0 : PH} {ds ds' : List Nat} {T L : List PV} {Ta La : List Value} {l0 : Nat} {st st' : PS} {sn : List (AH V)} {dr : Bool} {o : AOper} {ops : List AOper} {Q : List PV → PH → Prop} {inR : Bool} {p : List Nat} {a b c : ACode} {R : AE → List PV → PH → Prop}
/-- Rows of whole numbers, each in a block of its own. -/
def TabIn (hp : PH) (bk n : Nat) (rows : Nat → List Int) (S : Nat → Prop) : Prop :=
  ∃ cs : List PV, hp[bk]? = some (.cel cs) ∧ cs.length = n ∧ ∃ ptr : Nat → Nat,
    (∀ i, i < n → (rows i = [] ∧ cs[i]? = some (.s (.slice none 0 0))) ∨ (rows i ≠ [] ∧ cs[i]? = some (.vec 1 (ptr i) (rows i).length) ∧ S (ptr i) ∧ ∃ f, hp[ptr i]? = some (.vec 1 (rows i).length f true) ∧ ∀ j, j < (rows i).length → f j = rowI .i64 (rows i) j)) ∧
    ∀ i j, i < n → j < n → rows i ≠ [] → rows j ≠ [] → ptr i = ptr j → i = j
theorem TabIn.start {hp : PH} {bk n : Nat} {S : Nat → Prop} (h : hp[bk]? = some (.cel (List.replicate n (.s (.slice none 0 0))))) : TabIn hp bk n (fun _ => []) S :=
  ⟨_, h, by simp, fun _ => 0, fun i hi => .inl ⟨rfl, by rw [List.getElem?_replicate, if_pos hi]⟩, fun i j _ _ h => absurd rfl h⟩
theorem TabIn.keep {hp hp' : PH} {bk n : Nat} {rows : Nat → List Int} {S S' : Nat → Prop} (h : TabIn hp bk n rows S) (hb : hp'[bk]? = hp[bk]?) (hk : ∀ j, S j → j < hp.length → hp'[j]? = hp[j]?) (hS : ∀ j, S j → S' j) : TabIn hp' bk n rows S' := by
  obtain ⟨cs, h1, h2, ptr, h3, h4⟩ := h
  refine ⟨cs, hb.trans h1, h2, ptr, fun i hi => ?_, h4⟩
  rcases h3 i hi with h | ⟨q1, q2, q3, f, q4, q5⟩
  · exact .inl h
  · exact .inr ⟨q1, q2, hS _ q3, f, (hk _ q3 (List.getElem?_eq_some_iff.1 q4).1).trans q4, q5⟩
theorem TabIn.bound {hp : PH} {bk n : Nat} {rows : Nat → List Int} {S : Nat → Prop} (h : TabIn hp bk n rows S) : TabIn hp bk n rows fun j => S j ∧ j < hp.length := by
  obtain ⟨cs, h1, h2, ptr, h3, h4⟩ := h
  refine ⟨cs, h1, h2, ptr, fun i hi => ?_, h4⟩
  rcases h3 i hi with h | ⟨q1, q2, q3, f, q4, q5⟩
  · exact .inl h
  · exact .inr ⟨q1, q2, ⟨q3, (List.getElem?_eq_some_iff.1 q4).1⟩, f, q4, q5⟩
theorem TabIn.at {hp : PH} {bk n : Nat} {rows : Nat → List Int} {lo : Nat} (h : TabIn hp bk n rows (lo ≤ ·)) : RowsAt hp bk n rows lo := h
/-- All of it frozen. -/
theorem TabIn.frz {hp : PH} {bk n : Nat} {rows : Nat → List Int} {S : Nat → Prop} (h : TabIn hp bk n rows S) : ∃ fz : List Nat, bk ∈ fz ∧ (∀ b, b ∈ fz → b = bk ∨ S b) ∧ ∀ σ fz', (∀ b, b ∈ fz → b ∈ fz') → VSub1 σ fz' hp (.vec 1 bk n) (.frz 1 n n fun i => [encI (rows i)]) := by
  obtain ⟨cs, h1, h2, ptr, h3, h4⟩ := h
  refine ⟨bk :: (List.range n).map fun i => if rows i = [] then bk else ptr i, List.mem_cons_self, fun b hb => ?_, fun σ fz' hsub => ?_⟩
  · rcases List.mem_cons.1 hb with h | h
    · exact .inl h
    · obtain ⟨i, hi, rfl⟩ := List.mem_map.1 h
      have hi := List.mem_range.1 hi
      by_cases hn : rows i = []
      · rw [if_pos hn]; exact .inl rfl
      · rw [if_neg hn]
        rcases h3 i hi with ⟨q, _⟩ | ⟨_, _, q, _⟩
        · exact absurd q hn
        · exact .inr q
  · refine .vecc (hsub _ List.mem_cons_self) h1 (by omega) rfl (fun i hi => rfl) fun i hi => ?_
    rcases h3 i hi with ⟨q1, q2⟩ | ⟨q1, q2, q3, f, q4, q5⟩
    · rw [List.getD_eq_getElem?_getD, q2, q1]
      exact .nilf
    · rw [List.getD_eq_getElem?_getD, q2]
      exact .vecf (hsub _ (List.mem_cons_of_mem _ (List.mem_map.2 ⟨i, List.mem_range.2 hi, by rw [if_neg q1]⟩))) q4 rfl (Nat.le_refl _) (Nat.le_refl _) q5
theorem TabIn.push {hp hp2 : PH} {bk n i l' : Nat} {S : Nat → Prop} {x : Int} {rows : Nat → List Int} {cs : List PV} {ptr : Nat → Nat} {g : Nat → List PV} (hcs : cs.length = n) (hi : i < n)
    (hrow : ∀ i, i < n → (rows i = [] ∧ cs[i]? = some (.s (.slice none 0 0))) ∨ (rows i ≠ [] ∧ cs[i]? = some (.vec 1 (ptr i) (rows i).length) ∧ S (ptr i) ∧ ∃ f, hp[ptr i]? = some (.vec 1 (rows i).length f true) ∧ ∀ j, j < (rows i).length → f j = rowI .i64 (rows i) j))
    (hinj : ∀ i j, i < n → j < n → rows i ≠ [] → rows j ≠ [] → ptr i = ptr j → i = j) (hb : bk < hp2.length) (hbl : bk < hp.length) (hbS : ¬ S bk) (hl : hp.length ≤ l')
    (hnew : hp2[l']? = some (.vec 1 ((rows i).length + 1) g true)) (hg : ∀ j, j < (rows i).length + 1 → g j = rowI .i64 (rows i ++ [x]) j) (hold : ∀ j, j < n → j ≠ i → rows j ≠ [] → hp2[ptr j]? = hp[ptr j]?) :
    TabIn (hp2.set bk (.cel (cs.set i (.vec 1 l' ((rows i).length + 1))))) bk n (updR rows i (rows i ++ [x])) fun j => S j ∨ hp.length ≤ j := by
  have hne : updR rows i (rows i ++ [x]) i ≠ [] := by simp [updR]
  have hu : ∀ j, j ≠ i → updR rows i (rows i ++ [x]) j = rows j := fun j h => by simp [updR, h]
  have hs : updR rows i (rows i ++ [x]) i = rows i ++ [x] := by simp [updR]
  have hpl : ∀ j, j < n → rows j ≠ [] → ptr j < hp.length := fun j hj hn => by
    rcases hrow j hj with ⟨h, _⟩ | ⟨_, _, _, f, h, _⟩
    · exact absurd h hn
    · exact (List.getElem?_eq_some_iff.1 h).1
  refine ⟨_, List.getElem?_set_self hb, by simpa using hcs, fun j => if j = i then l' else ptr j, fun j hj => ?_, fun a b ha hb na nb e => ?_⟩
  · by_cases h : j = i
    · subst h
      rw [hs]
      dsimp only
      refine .inr ⟨by simp, ?_, ?_, g, ?_, ?_⟩
      · rw [List.getElem?_set_self (by omega), if_pos rfl, List.length_append, List.length_singleton]
      · rw [if_pos rfl]; exact .inr hl
      · rw [if_pos rfl, List.getElem?_set_ne (by omega), hnew, List.length_append, List.length_singleton]
      · intro k hk
        rw [List.length_append, List.length_singleton] at hk
        exact hg k hk
    · rw [hu j h]
      simp only [if_neg h]
      rw [List.getElem?_set_ne (Ne.symm h)]
      rcases hrow j hj with q | ⟨q1, q2, q3, f, q4, q5⟩
      · exact .inl q
      · refine .inr ⟨q1, q2, .inl q3, f, ?_, q5⟩
        rw [List.getElem?_set_ne (show bk ≠ ptr j from fun e => hbS (by rw [e]; exact q3)), hold j hj h q1]
        exact q4
  · dsimp only at e
    by_cases h1 : a = i
    · by_cases h2 : b = i
      · rw [h1, h2]
      · rw [if_pos h1, if_neg h2] at e
        rw [hu b h2] at nb
        have := hpl b hb nb
        omega
    · rw [hu a h1] at na
      by_cases h2 : b = i
      · rw [if_neg h1, if_pos h2] at e
        have := hpl a ha na
        omega
      · rw [if_neg h1, if_neg h2] at e
        rw [hu b h2] at nb
        exact hinj a b ha hb na nb e
end
end Go.Proofs.Ytollibkfagjnaaa.AM

/- A label to which one goes back. -/
namespace Go.Proofs.Ytollibkfagjnaaa.AM
section
variable {V : Type → Type} [Vec V] {E : Env V} {F F' F0 : Nat → Prop} {ρ ρ' ρ0 : PR} {H H' H0 : AH V} {hp hp' hp0 : PH} {ds ds' : List Nat} {T L : List PV} {Ta La : List Value} {inR : Bool} {p : List Nat} {a b c : ACode} {R : AE → List PV → PH → Prop}
end
end Go.Proofs.Ytollibkfagjnaaa.AM

/- A number more in a row of a table that lies in a record of one's own. -/
namespace Go.Proofs.Ytollibkfagjnaaa.AM
section
variable {V : Type → Type} [Vec V] {E : Env V} {F F' F0 : Nat → Prop} {ρ ρ' ρ0 : PR} {H H' H0 : AH V} {hp hp' hp0 : PH} {ds ds' : List Nat} {T L : List PV} {Ta La : List Value} {l0 : Nat} {st st' : PS} {sn : List (AH V)} {dr : Bool} {o : AOper} {ops : List AOper} {Q : List PV → PH → Prop} {inR : Bool} {p : List Nat} {a b c : ACode} {R : AE → List PV → PH → Prop}
end
end Go.Proofs.Ytollibkfagjnaaa.AM
