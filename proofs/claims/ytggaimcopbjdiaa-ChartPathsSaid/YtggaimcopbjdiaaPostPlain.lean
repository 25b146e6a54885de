set_option linter.unusedVariables false
namespace Go.Proofs.Ytggaimcopbjdiaa.Post
section
variable (x : Nat) (nx : Nat → List Nat) (pl : Nat → Nat) (L : Nat → Prop) (p : Nat → Nat)
inductive Av (q : Nat) : Nat → Nat → Prop
 | refl {a : Nat} (h : a ≠ q) : Av q a a
 | step {a b c : Nat} (h : a ≠ q) (hc : c ∈ nx a) (t : Av q c b) : Av q a b
inductive Wy : Nat → Nat → Prop
 | refl (a : Nat) : Wy a a
 | step {a b c : Nat} (hc : c ∈ nx a) (t : Wy c b) : Wy a b
def PD (a q : Nat) : Prop := ¬ Av nx q a x
inductive Gt (k : Nat) : Nat → Nat → Prop
 | refl (a : Nat) : Gt k a a
 | step {a b c : Nat} (h : k < pl a) (hc : c ∈ nx a) (t : Gt k c b) : Gt k a b
inductive Ch (nr : Nat → Option Nat) : Nat → Nat → Prop
 | refl {a : Nat} (h : (nr a).isSome = true) : Ch nr a a
 | step {a b q : Nat} (hne : a ≠ x) (h : nr a = some b) (t : Ch nr b q) : Ch nr a q
structure Ord : Prop where
 exit : L x
 px : pl x = 0
 inj : ∀ a b, L a → L b → pl a = pl b → a = b
 par : ∀ a, L a → a ≠ x → p a ∈ nx a ∧ pl (p a) < pl a ∧ L (p a)
 ways : ∀ a, L a ↔ Wy nx a x
structure Ok (nr : Nat → Option Nat) : Prop where
 ex : nr x = some x
 inl : ∀ a b, nr a = some b → L a ∧ L b
 lt : ∀ a b, a ≠ x → nr a = some b → pl b < pl a ∧ (nr b).isSome = true
 path : ∀ a b, a ≠ x → nr a = some b → Gt nx pl (pl b) a b
 dom : ∀ a q, (nr a).isSome = true → PD x nx a q → Ch x nr a q
variable {x nx pl L p}
theorem Av.from {q a b : Nat} (h : Av nx q a b) : a ≠ q := by cases h <;> assumption
theorem Av.wy {q a b : Nat} (h : Av nx q a b) : Wy nx a b := by
 induction h with
 | refl h => exact .refl _
 | step _ hc _ ih => exact .step hc ih
theorem Wy.trans {a b c : Nat} (h : Wy nx a b) (k : Wy nx b c) : Wy nx a c := by
 induction h with
 | refl => exact k
 | step hc t ih => exact .step hc (ih k)
theorem Gt.mono {k k' a b : Nat} (h : Gt nx pl k a b) (hk : k' ≤ k) : Gt nx pl k' a b := by
 induction h with
 | refl a => exact .refl a
 | step h hc t ih => exact .step (by omega) hc ih
theorem Gt.trans {k a b c : Nat} (h : Gt nx pl k a b) (t : Gt nx pl k b c) : Gt nx pl k a c := by
 induction h with
 | refl a => exact t
 | step h hc _ ih => exact .step h hc (ih t)
theorem Gt.av {k a b q : Nat} (h : Gt nx pl k a b) (hq : pl q ≤ k) (t : Av nx q b x) : Av nx q a x := by
 induction h with
 | refl a => exact t
 | step h hc _ ih => exact .step (fun e => by subst e; omega) hc (ih t)
section
variable {nr : Nat → Option Nat}
theorem Ch.src {a q : Nat} (h : Ch x nr a q) : (nr a).isSome = true := by
 cases h with
 | refl h => exact h
 | step _ h _ => rw [h]; rfl
theorem Ch.dst {a q : Nat} (h : Ch x nr a q) : (nr q).isSome = true := by
 induction h with
 | refl h => exact h
 | step _ _ _ ih => exact ih
theorem Ch.trans {a b c : Nat} (h : Ch x nr a b) (k : Ch x nr b c) : Ch x nr a c := by
 induction h with
 | refl h => exact k
 | step hne h _ ih => exact .step hne h (ih k)
theorem Ch.exit {q : Nat} (h : Ch x nr x q) : q = x := by
 cases h with
 | refl h => rfl
 | step hne _ _ => exact absurd rfl hne
theorem Ch.le (ok : Ok x nx pl L nr) {a q : Nat} (h : Ch x nr a q) : pl q ≤ pl a := by
 induction h with
 | refl h => exact Nat.le_refl _
 | step hne h _ ih => have := (ok.lt _ _ hne h).1; omega
theorem Ch.lt_of_ne (ok : Ok x nx pl L nr) {a q : Nat} (h : Ch x nr a q) (hne : q ≠ a) : pl q < pl a := by
 cases h with
 | refl h => exact absurd rfl hne
 | step hx h t => have := (ok.lt _ _ hx h).1; have := t.le ok; omega
theorem Ch.inl (ok : Ok x nx pl L nr) {a q : Nat} (h : Ch x nr a q) : L a ∧ L q := by
 have h1 := h.src
 have h2 := h.dst
 obtain ⟨b, e⟩ := Option.isSome_iff_exists.1 h1
 obtain ⟨c, f⟩ := Option.isSome_iff_exists.1 h2
 exact ⟨(ok.inl _ _ e).1, (ok.inl _ _ f).1⟩
theorem Ch.gt (ok : Ok x nx pl L nr) {a q : Nat} (h : Ch x nr a q) : Gt nx pl (pl q) a q := by
 induction h with
 | refl h => exact .refl _
 | step hne h t ih => exact ((ok.path _ _ hne h).mono (t.le ok)).trans ih
end
def upd (nr : Nat → Option Nat) (a m : Nat) : Nat → Option Nat := fun c => if c = a then some m else nr c
theorem upd_same (nr : Nat → Option Nat) (a m : Nat) : upd nr a m a = some m := by simp [upd]
theorem upd_ne (nr : Nat → Option Nat) {a c : Nat} (m : Nat) (h : c ≠ a) : upd nr a m c = nr c := by simp [upd, h]
theorem upd_some (nr : Nat → Option Nat) (a m : Nat) {c : Nat} (h : (nr c).isSome = true) : (upd nr a m c).isSome = true := by
 by_cases e : c = a
 ·subst e; rw [upd_same]; rfl
 ·rw [upd_ne nr m e]; exact h
structure St (nr : Nat → Option Nat) (a m : Nat) : Prop where
 ne : a ≠ x
 inl : L a
 src : (nr m).isSome = true
 lt : pl m < pl a
 path : Gt nx pl (pl m) a m
 dom : ∀ q, q ≠ a → PD x nx a q → Ch x nr m q
 up : ∀ o, nr a = some o → Ch x nr o m
section
variable {nr : Nat → Option Nat} {a m : Nat}
theorem ch_low (ok : Ok x nx pl L nr) (st : St (x := x) (nx := nx) (pl := pl) (L := L) nr a m) {v q : Nat} (hv : pl v < pl a) : Ch x (upd nr a m) v q ↔ Ch x nr v q := by
 constructor
 ·intro h
  induction h with
  | @refl c h =>
    have : c ≠ a := fun e => by subst e; omega
    rw [upd_ne nr m this] at h
    exact .refl h
  | @step c b q hne h t ih =>
    have : c ≠ a := fun e => by subst e; omega
    rw [upd_ne nr m this] at h
    have := (ok.lt _ _ hne h).1
    exact .step hne h (ih (by omega))
 ·intro h
  induction h with
  | @refl c h => exact .refl (upd_some _ _ _ h)
  | @step c b q hne h t ih =>
    have : c ≠ a := fun e => by subst e; omega
    have hl := (ok.lt _ _ hne h).1
    exact .step hne ((upd_ne nr m this).trans h) (ih (by omega))
theorem ch_back (ok : Ok x nx pl L nr) (st : St (x := x) (nx := nx) (pl := pl) (L := L) nr a m) {v q : Nat} (h : Ch x (upd nr a m) v q) (hv : (nr v).isSome = true) : Ch x nr v q := by
 induction h with
 | @refl c h => exact .refl hv
 | @step c b q hne h t ih =>
   by_cases e : c = a
   ·subst e
    rw [upd_same] at h
    cases h
    obtain ⟨o, ho⟩ := Option.isSome_iff_exists.1 hv
    exact .step hne ho ((st.up o ho).trans (ih st.src))
   ·rw [upd_ne nr m e] at h
    exact .step hne h (ih (ok.lt _ _ hne h).2)
theorem ch_split (st : St (x := x) (nx := nx) (pl := pl) (L := L) nr a m) {v q : Nat} (h : Ch x nr v q) : Ch x (upd nr a m) v q ∨ (Ch x nr v a ∧ Ch x (upd nr a m) v a ∧ q ≠ a ∧ Ch x nr a q) := by
 induction h with
 | @refl c h => exact .inl (.refl (upd_some _ _ _ h))
 | @step c b q hne h t ih =>
   by_cases e : c = a
   ·subst e
    by_cases hq : q = c
    ·subst hq; exact .inl (.refl (by rw [upd_same]; rfl))
    ·exact .inr ⟨.refl (by rw [h]; rfl), .refl (by rw [upd_same]; rfl), hq, .step hne h t⟩
   ·rcases ih with ih | ⟨h1, h2, h3, h4⟩
    ·exact .inl (.step hne ((upd_ne nr m e).trans h) ih)
    ·exact .inr ⟨.step hne h h1, .step hne ((upd_ne nr m e).trans h) h2, h3, h4⟩
theorem ok_upd (ok : Ok x nx pl L nr) (st : St (x := x) (nx := nx) (pl := pl) (L := L) nr a m) (hp : pl x = 0) : Ok x nx pl L (upd nr a m) := by
 have hm : L m := by
  obtain ⟨b, e⟩ := Option.isSome_iff_exists.1 st.src
  exact (ok.inl _ _ e).1
 refine ⟨?_, fun c b h => ?_, fun c b hne h => ?_, fun c b hne h => ?_, fun c q h hd => ?_⟩
 ·rw [upd_ne nr m (Ne.symm st.ne)]; exact ok.ex
 ·by_cases e : c = a
  ·subst e; rw [upd_same] at h; cases h; exact ⟨st.inl, hm⟩
  ·rw [upd_ne nr m e] at h; exact ok.inl _ _ h
 ·by_cases e : c = a
  ·subst e; rw [upd_same] at h; cases h; exact ⟨st.lt, upd_some _ _ _ st.src⟩
  ·rw [upd_ne nr m e] at h
   obtain ⟨h1, h2⟩ := ok.lt _ _ hne h
   exact ⟨h1, upd_some _ _ _ h2⟩
 ·by_cases e : c = a
  ·subst e; rw [upd_same] at h; cases h; exact st.path
  ·rw [upd_ne nr m e] at h; exact ok.path _ _ hne h
 ·by_cases e : c = a
  ·subst e
   by_cases hq : q = c
   ·subst hq; exact .refl (by rw [upd_same]; rfl)
   ·exact .step st.ne (upd_same nr c m) ((ch_low ok st st.lt).2 (st.dom q hq hd))
  ·rw [upd_ne nr m e] at h
   rcases ch_split st (ok.dom c q h hd) with h1 | ⟨h1, h2, h3, h4⟩
   ·exact h1
   ·have hl := h4.lt_of_ne ok h3
    have hda : PD x nx a q := fun t => hd ((h1.gt ok).av (by omega) t)
    exact h2.trans (.step st.ne (upd_same nr a m) ((ch_low ok st st.lt).2 (st.dom q h3 hda)))
end
structure Rd (k : Nat) (o nr : Nat → Option Nat) : Prop where
 ok : Ok x nx pl L nr
 oko : Ok x nx pl L o
 same : ∀ a, k ≤ pl a → nr a = o a
 done : ∀ a, L a → pl a < k → (nr a).isSome = true
 kept : ∀ a, (o a).isSome = true → (nr a).isSome = true
 m : ∀ w u q, L w → pl w < k → Ch x o w u → Ch x nr w q → pl q < pl u → Ch x nr u q
 s : ∀ w q, (o w).isSome = true → Ch x nr w q → Ch x o w q
 n1 : ∀ w b, w ≠ x → L w → pl w < k → nr w = some b → Ch x nr (p w) b
 n2 : ∀ w b, w ≠ x → L w → pl w < k → nr w = some b → ∀ q, (∀ c, c ∈ nx w → (nr c).isSome = true → Ch x nr c q) → pl q ≤ pl b
 o1 : ∀ w b, w ≠ x → o w = some b → Ch x o (p w) b
 o2 : ∀ w b, w ≠ x → o w = some b → ∀ q, (∀ c, c ∈ nx w → (o c).isSome = true → Ch x o c q) → pl q ≤ pl b
structure Best (nr : Nat → Option Nat) (a m : Nat) : Prop where
 all : ∀ c, c ∈ nx a → (nr c).isSome = true → Ch x nr c m
 low : ∀ q, (∀ c, c ∈ nx a → (nr c).isSome = true → Ch x nr c q) → Ch x nr m q
section
variable {o nr : Nat → Option Nat} {k a m : Nat}
theorem step_st (od : Ord x nx pl L p) (rd : Rd (x := x) (nx := nx) (pl := pl) (L := L) (p := p) k o nr) (ha : L a) (hax : a ≠ x) (hk : pl a = k) (hb : Best (x := x) (nx := nx) nr a m) : St (x := x) (nx := nx) (pl := pl) (L := L) nr a m := by
 obtain ⟨p1, p2, p3⟩ := od.par a ha hax
 have hpa := rd.done (p a) p3 (by omega)
 have hpm := hb.all _ p1 hpa
 have hml := hpm.le rd.ok
 refine ⟨hax, ha, hpm.dst, by omega, .step (by omega) p1 (hpm.gt rd.ok), fun q hq hd => ?_, fun old ho => ?_⟩
 ·refine hb.low q fun c hc hcs => rd.ok.dom c q hcs fun t => hd (.step (Ne.symm hq) hc t)
 ·have hoa : o a = some old := by rw [← rd.same a (by omega)]; exact ho
  have h1 := rd.o1 a old hax hoa
  have hle : pl m ≤ pl old := rd.o2 a old hax hoa m fun c hc hcs => rd.s c m hcs (hb.all c hc (rd.kept c hcs))
  by_cases e : pl m = pl old
  ·have h2 := (rd.ok.inl _ _ ho).2
   have : m = old := od.inj _ _ (hpm.inl rd.ok).2 h2 e
   subst this
   exact .refl hpm.dst
  ·exact rd.m (p a) old m p3 (by omega) h1 hpm (by omega)
theorem rd_step (od : Ord x nx pl L p) (rd : Rd (x := x) (nx := nx) (pl := pl) (L := L) (p := p) k o nr) (ha : L a) (hax : a ≠ x) (hk : pl a = k) (hb : Best (x := x) (nx := nx) nr a m) : Rd (x := x) (nx := nx) (pl := pl) (L := L) (p := p) (k + 1) o (upd nr a m) := by
 have st := step_st od rd ha hax hk hb
 obtain ⟨p1, p2, p3⟩ := od.par a ha hax
 have hpa := rd.done (p a) p3 (by omega)
 have hpm := hb.all _ p1 hpa
 have hwa : ∀ w, L w → pl w < k + 1 → pl w < k ∨ w = a := fun w hw h => by
  by_cases e : pl w = k
  ·exact .inr (od.inj _ _ hw ha (by omega))
  ·exact .inl (by omega)
 have low := fun v q (hv : pl v < pl a) => ch_low (v := v) (q := q) rd.ok st hv
 refine ⟨ok_upd rd.ok st od.px, rd.oko, fun c hc => ?_, fun c hc hl => ?_, fun c hc => upd_some _ _ _ (rd.kept c hc), fun w u q hw hl h1 h2 hq => ?_, fun w q hw h => ?_, fun w b hne hw hl h => ?_, fun w b hne hw hl h q hq => ?_, rd.o1, rd.o2⟩
 ·rw [upd_ne nr m (fun e => by subst e; omega)]; exact rd.same c (by omega)
 ·rcases hwa c hc hl with h | rfl
  ·exact upd_some _ _ _ (rd.done c hc h)
  ·rw [upd_same]; rfl
 ·rcases hwa w hw hl with h | rfl
  ·have h3 := (low w q (by omega)).1 h2
   have h4 := rd.m w u q hw h h1 h3 hq
   have := h1.le rd.oko
   exact (low u q (by omega)).2 h4
  ·cases h1 with
   | refl h => exact h2
   | step hne ho t =>
     have hul := (Ch.le rd.oko t)
     have hol := (rd.oko.lt _ _ hne ho).1
     cases h2 with
     | refl h => omega
     | step hne' h' t' =>
       rw [upd_same] at h'
       cases h'
       have h5 : Ch x nr (p w) q := hpm.trans ((low m q st.lt).1 t')
       have h6 : Ch x o (p w) u := (rd.o1 w _ hne ho).trans t
       exact (low u q (by omega)).2 (rd.m (p w) u q p3 (by omega) h6 h5 hq)
 ·exact rd.s w q hw (ch_back rd.ok st h (rd.kept w hw))
 ·rcases hwa w hw hl with hlt | rfl
  ·obtain ⟨_, q2, _⟩ := od.par w hw hne
   rw [upd_ne nr m (fun e => by subst e; omega)] at h
   exact (low (p w) b (by omega)).2 (rd.n1 w b hne hw hlt h)
  ·rw [upd_same] at h
   cases h
   exact (low (p w) m (by omega)).2 hpm
 ·have back : ∀ c, c ∈ nx w → (nr c).isSome = true → Ch x nr c q := fun c hc hcs => ch_back rd.ok st (hq c hc (upd_some _ _ _ hcs)) hcs
  rcases hwa w hw hl with hlt | rfl
  ·rw [upd_ne nr m (fun e => by subst e; omega)] at h
   exact rd.n2 w b hne hw hlt h q back
  ·rw [upd_same] at h
   cases h
   exact (hb.low q back).le rd.ok
end
theorem rd_begin {nr : Nat → Option Nat} (od : Ord x nx pl L p) (ok : Ok x nx pl L nr) (o1 : ∀ w b, w ≠ x → nr w = some b → Ch x nr (p w) b) (o2 : ∀ w b, w ≠ x → nr w = some b → ∀ q, (∀ c, c ∈ nx w → (nr c).isSome = true → Ch x nr c q) → pl q ≤ pl b) : Rd (x := x) (nx := nx) (pl := pl) (L := L) (p := p) 1 nr nr := by
 have hx : ∀ w, L w → pl w < 1 → w = x := fun w hw h => od.inj _ _ hw od.exit (by have := od.px; omega)
 refine ⟨ok, ok, fun _ _ => rfl, fun a ha h => ?_, fun _ h => h, fun w u q hw h h1 h2 h3 => ?_, fun _ _ _ h => h, fun w b hne hw h _ => absurd (hx w hw h) hne, fun w b hne hw h _ => absurd (hx w hw h) hne, o1, o2⟩
 ·rw [hx a ha h, ok.ex]; rfl
 ·have := hx w hw h
  subst this
  rw [h1.exit, h2.exit] at h3
  omega
theorem rd_next {o nr : Nat → Option Nat} {k : Nat} (od : Ord x nx pl L p) (rd : Rd (x := x) (nx := nx) (pl := pl) (L := L) (p := p) k o nr) (hk : ∀ a, L a → pl a < k) : Rd (x := x) (nx := nx) (pl := pl) (L := L) (p := p) 1 nr nr :=
 rd_begin od rd.ok (fun w b hne h => rd.n1 w b hne (rd.ok.inl _ _ h).1 (hk _ (rd.ok.inl _ _ h).1) h) fun w b hne h => rd.n2 w b hne (rd.ok.inl _ _ h).1 (hk _ (rd.ok.inl _ _ h).1) h
def init (x : Nat) : Nat → Option Nat := fun a => if a = x then some x else none
theorem rd_first (od : Ord x nx pl L p) : Rd (x := x) (nx := nx) (pl := pl) (L := L) (p := p) 1 (init x) (init x) := by
 have only : ∀ a b, init x a = some b → a = x ∧ b = x := fun a b h => by
  unfold init at h
  split at h
  ·next e => cases h; exact ⟨e, rfl⟩
  ·cases h
 refine rd_begin od ⟨by simp [init], fun a b h => ?_, fun a b hne h => absurd (only a b h).1 hne, fun a b hne h => absurd (only a b h).1 hne, fun a q h hd => ?_⟩ (fun w b hne h => absurd (only w b h).1 hne) (fun w b hne h => absurd (only w b h).1 hne)
 ·obtain ⟨rfl, rfl⟩ := only a b h
  exact ⟨od.exit, od.exit⟩
 ·obtain ⟨b, e⟩ := Option.isSome_iff_exists.1 h
  obtain ⟨ha, hb⟩ := only a b e
  have hq : q = x := Classical.byContradiction fun hne => hd (by rw [ha]; exact .refl (Ne.symm hne))
  rw [hq, ha]
  exact .refl (by simp [init])
theorem fix_pd {nr : Nat → Option Nat} (od : Ord x nx pl L p) (ok : Ok x nx pl L nr) (all : ∀ a, L a → (nr a).isSome = true) (fp : ∀ a b, L a → a ≠ x → nr a = some b → ∀ c, c ∈ nx a → L c → Ch x nr c b) {a q : Nat} (ha : L a) : Ch x nr a q ↔ PD x nx a q := by
 refine ⟨fun h t => ?_, fun h => ok.dom a q (all a ha) h⟩
 have key : ∀ {a b : Nat}, Av nx q a b → b = x → L a → Ch x nr a q → False := by
  intro a b t
  induction t with
  | refl hq => intro e _ h; subst e; exact hq h.exit.symm
  | step hq hc t ih =>
    intro e hl h
    have hcl := (od.ways _).2 (e ▸ t.wy)
    cases h with
    | refl h => exact hq rfl
    | step hne h t' => exact ih e hcl ((fp _ _ hl hne h _ hc hcl).trans t')
 exact key t rfl ha h
end
end Go.Proofs.Ytggaimcopbjdiaa.Post
