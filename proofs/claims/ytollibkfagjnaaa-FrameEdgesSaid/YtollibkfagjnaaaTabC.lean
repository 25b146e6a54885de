/- Tables: lists of one's own in a list of one's own that grows. Code that leaves the heap alone, in draws too; values cut; slices clipped. PUT TOGETHER by merge.py. -/
import Derived.Test.YtollibkfagjnaaaPN
set_option linter.unusedVariables false
set_option linter.unusedSimpArgs false
namespace Go.Proofs.Ytollibkfagjnaaa.AM
section
variable {V : Type → Type} [Vec V] {E : Env V} {F F' F0 : Nat → Prop} {ρ ρ' ρ0 : PR} {H H' H0 : AH V} {hp hp' hp0 : PH} {ds ds' : List Nat} {T L : List PV} {Ta La : List Value} {inR : Bool} {p : List Nat} {a b c : ACode} {R : AE → List PV → PH → Prop} {st : PS} {dr : Bool} {ops : List AOper} {l0 : Nat} {Q : List PV → PH → Prop}
/-! ### Calls beside a heap that is not written out -/
theorem putL_one {n x : Nat} {B : PB} (hB : renB (kap [x] n) B = B) : ∀ {j : Nat} {l : PH}, (∀ i C, j + i = x → l[i]? = some C → C = B) → putL [x] [] n [B] j l = l
  | _, [], _ => by simp [putL]
  | j, C :: r, h => by
    have ih := putL_one hB (j := j + 1) (l := r) fun i D h1 h2 => h (i + 1) D (by omega) (by simpa using h2)
    simp only [putL, ih, putB, inv]
    cases hx : Nat.beq x j with
    | true =>
      have hxj := Nat.eq_of_beq_eq_true hx
      have := h 0 C (by omega) rfl
      simp [this, hB]
    | false => simp
/-! ### Lists of one's own -/
def ov0 : PV := .fzx 1 0 (fun _ => [])
/-- A list of one's own of which one knows that it has no more room: where it lies. -/
def OwnV (hp : PH) (v : PV) (n : Nat) (rw_ : Nat → List PV) (lo hi : Nat) : Prop := ∃ b full, v = .exv 1 b n ∧ lo ≤ b ∧ b < hi ∧ hp[b]? = some (.vec 1 n rw_ full)
theorem OwnV.keep {v : PV} {n lo hi : Nat} {r : Nat → List PV} (h : OwnV hp v n r lo hi) (hk : ∀ b, lo ≤ b → b < hi → ∀ n f full, hp[b]? = some (.vec 1 n f full) → hp'[b]? = some (.vec 1 n f full)) : OwnV hp' v n r lo hi := by
  obtain ⟨b, full, h1, h2, h3, h4⟩ := h
  exact ⟨b, full, h1, h2, h3, hk b h2 h3 _ _ _ h4⟩
theorem OwnV.app {v : PV} {n lo hi : Nat} {r : Nat → List PV} (h : OwnV hp v n r lo hi) (l : PH) : OwnV (hp ++ l) v n r lo hi := h.keep fun b h1 h2 n f full h => by
  rw [List.getElem?_append_left (List.getElem?_eq_some_iff.1 h).1]; exact h
theorem OwnV.cell {v : PV} {n lo hi : Nat} {r : Nat → List PV} (h : OwnV hp v n r lo hi) : pcs v = [v] ∧ okc v = true ∧ rok2 v = true ∧ plen (some v) = pv1 (.s (.int .i64 (n : Int))) := by
  obtain ⟨b, full, rfl, _⟩ := h
  exact ⟨rfl, rfl, rfl, rfl⟩
/-- Cells of a table: each a list of one's own, no two the same; marked where P says so. -/
def Cells (hp : PH) (hi : Nat) (cs : List PV) (len : Nat → Nat) (P : Nat → Nat → Prop) : Prop := ∃ ptr : Nat → Nat,
  (∀ r, r < cs.length → len r ≤ 1000000 ∧ ((len r = 0 ∧ cs[r]? = some ov0) ∨ (cs[r]? = some (.exv 1 (ptr r) (len r)) ∧ ptr r < hi ∧ ∃ f full, hp[ptr r]? = some (.vec 1 (len r) f full) ∧ (∀ j, j < len r → (f j).length = 1) ∧ ∀ j, j < len r → P r j → f j = [.s (.int .i64 (1000 * (r : Int) + (j : Int)))]))) ∧
  ∀ r s, r < cs.length → s < cs.length → len r ≠ 0 → len s ≠ 0 → ptr r = ptr s → r = s
theorem Cells.nil {hi : Nat} {len : Nat → Nat} {P : Nat → Nat → Prop} : Cells hp hi [] len P := ⟨fun _ => 0, fun r h => by simp at h, fun r s h => by simp at h⟩
theorem Cells.keep {hi : Nat} {cs : List PV} {len : Nat → Nat} {P : Nat → Nat → Prop} (h : Cells hp hi cs len P) (hk : ∀ b, b < hi → ∀ n f full, hp[b]? = some (.vec 1 n f full) → hp'[b]? = some (.vec 1 n f full)) : Cells hp' hi cs len P := by
  obtain ⟨ptr, h1, h2⟩ := h
  refine ⟨ptr, fun r hr => ?_, h2⟩
  obtain ⟨q1, q2⟩ := h1 r hr
  refine ⟨q1, ?_⟩
  rcases q2 with q2 | ⟨q2, q3, f, full, q4, q5⟩
  · exact .inl q2
  · exact .inr ⟨q2, q3, f, full, hk _ q3 _ _ _ q4, q5⟩
theorem Cells.app {hi : Nat} {cs : List PV} {len : Nat → Nat} {P : Nat → Nat → Prop} (h : Cells hp hi cs len P) (l : PH) : Cells (hp ++ l) hi cs len P := h.keep fun b h2 n f full h => by
  rw [List.getElem?_append_left (List.getElem?_eq_some_iff.1 h).1]; exact h
theorem Cells.up {hi hi' : Nat} {cs : List PV} {len : Nat → Nat} {P : Nat → Nat → Prop} (h : Cells hp hi cs len P) (hle : hi ≤ hi') : Cells hp hi' cs len P := by
  obtain ⟨ptr, h1, h2⟩ := h
  refine ⟨ptr, fun r hr => ?_, h2⟩
  obtain ⟨q1, q2⟩ := h1 r hr
  refine ⟨q1, ?_⟩
  rcases q2 with q2 | ⟨q2, q3, q4⟩
  · exact .inl q2
  · exact .inr ⟨q2, Nat.lt_of_lt_of_le q3 hle, q4⟩
/-- One mark more. -/
theorem Cells.mark {hi i k b : Nat} {cs : List PV} {len : Nat → Nat} {f : Nat → List PV} {full : Bool} (h : Cells hp hi cs len (fun r j => r < i ∨ r = i ∧ j < k)) (hi' : i < cs.length) (hk : k < len i) (hb : cs[i]? = some (.exv 1 b (len i))) (hf : hp[b]? = some (.vec 1 (len i) f full)) :
    Cells (hp.set b (.vec 1 (len i) (fun j => if j = k then [.s (.int .i64 (1000 * (i : Int) + (k : Int)))] else f j) full)) hi cs len (fun r j => r < i ∨ r = i ∧ j < k + 1) := by
  obtain ⟨ptr, h1, h2⟩ := h
  have hbl := (List.getElem?_eq_some_iff.1 hf).1
  have hpi : ptr i = b := by
    rcases (h1 i hi').2 with ⟨q, _⟩ | ⟨q, _⟩
    · omega
    · rw [hb] at q; cases q; rfl
  refine ⟨ptr, fun r hr => ?_, h2⟩
  obtain ⟨q1, q2⟩ := h1 r hr
  refine ⟨q1, ?_⟩
  rcases q2 with q2 | ⟨q2, q3, f', full', q4, q6, q5⟩
  · exact .inl q2
  · by_cases e : r = i
    · subst e
      rw [hpi] at q4 ⊢
      rw [hf] at q4; cases q4
      rw [hpi] at q3
      refine .inr ⟨by rw [hb], q3, _, _, List.getElem?_set_self hbl, fun j hj => ?_, fun j hj hP => ?_⟩
      · show (if j = k then _ else f j).length = 1
        by_cases ej : j = k
        · rw [if_pos ej]; rfl
        · rw [if_neg ej]; exact q6 j hj
      show (if j = k then _ else f j) = _
      by_cases ej : j = k
      · subst ej; rw [if_pos rfl]
      · rw [if_neg ej]
        refine q5 j hj ?_
        rcases hP with hP | ⟨_, hP⟩
        · exact absurd hP (Nat.lt_irrefl _)
        · exact .inr ⟨rfl, by omega⟩
    · by_cases h0 : len r = 0
      · rw [h0] at q2 ⊢
        have hpb : ∃ f2 full2, (hp.set b (.vec 1 (len i) (fun j => if j = k then [.s (.int .i64 (1000 * (i : Int) + (k : Int)))] else f j) full))[ptr r]? = some (.vec 1 0 f2 full2) := by
          by_cases e2 : b = ptr r
          · rw [← e2, hf] at q4
            simp only [Option.some.injEq, PB.vec.injEq] at q4
            omega
          · rw [List.getElem?_set_ne e2, q4, h0]
            exact ⟨_, _, rfl⟩
        obtain ⟨f2, full2, hpb⟩ := hpb
        exact .inr ⟨q2, q3, f2, full2, hpb, fun j hj => absurd hj (Nat.not_lt_zero _), fun j hj => absurd hj (Nat.not_lt_zero _)⟩
      · have e2 : b ≠ ptr r := fun e2 => e (h2 r i hr hi' h0 (by omega) (by rw [hpi, e2]))
        refine .inr ⟨q2, q3, f', full', by rw [List.getElem?_set_ne e2]; exact q4, q6, fun j hj hP => q5 j hj ?_⟩
        rcases hP with hP | ⟨hP, _⟩
        · exact .inl hP
        · exact absurd hP e
end
end Go.Proofs.Ytollibkfagjnaaa.AM

namespace Go.Proofs.Ytollibkfagjnaaa.AM
/-- May it be loaded whenever? -/
def loadF (T : List PV) (op : AOp Src) (v : PV) : Bool := match op with
  | .load _ a => (match a with
    | .tmp i => (match T[i]? with | some (.fptr _ _ _ _ _) => vq v | _ => false)
    | _ => false)
  | _ => true
def popsF (T : List PV) : List AOper → List PV → Option (List PV × Prop)
  | [], L => force L fun L => some (L, True)
  | o :: r, L => match pwanted T L o.g with
    | some true => (match pval o.op (psev T L) [] with
      | some (v, q) => (match loadF T o.op v with
        | true => (match popsF T r (v :: L) with | some (L', q') => some (L', q ∧ q') | none => none)
        | false => none)
      | none => none)
    | some false => (match isEff o.op with
      | true => none
      | false => popsF T r (.s undef :: L))
    | none => none
section
variable {V : Type → Type} [Vec V] {E : Env V} {F F' F0 : Nat → Prop} {ρ ρ' ρ0 : PR} {H H' H0 : AH V} {hp hp' hp0 : PH} {ds ds' : List Nat} {T L : List PV} {Ta La : List Value} {inR : Bool} {p : List Nat} {a b c : ACode} {R : AE → List PV → PH → Prop} {st : PS} {dr : Bool} {ops : List AOper} {l0 : Nat} {Q : List PV → PH → Prop}
theorem loadF_ok {L : List PV} {O : List Bool} {md : List Nat} {cnt lo : Nat} {op : AOp Src} {v : PV} (h : loadF T op v = true) : plOk l0 ⟨L, O, hp, md, cnt⟩ T lo op v = true := by
  unfold loadF at h
  split at h
  · next n a =>
    split at h
    · next i =>
      split at h
      · next sz k row i0 off e =>
        simp only [plOk, psev, fresh, e, srcO]
        cases Nat.ble cnt lo with
        | true => rfl
        | false => simp [h]
      · cases h
    · cases h
  · unfold plOk
    split
    · next op n a hne => exact (hne _ _ rfl).elim
    · rfl
theorem prg_pureD : ∀ {pre : List AOper} {L L' : List PV} {O : List Bool} {md : List Nat} {cnt : Nat} {q : Prop}, popsF T pre L = some (L', q) → q → (∀ O', PRg E p dr T ops l0 ⟨L', O', hp, md, cnt⟩ Q) → PRg E p dr T (pre ++ ops) l0 ⟨L, O, hp, md, cnt⟩ Q
  | [], L, L', O, md, cnt, q, h, hq, hP => by
    simp only [popsF, force_eq, Option.some.injEq, Prod.mk.injEq] at h
    obtain ⟨rfl, _⟩ := h
    exact hP O
  | o :: r, L, L', O, md, cnt, q, h, hq, hP => by
    simp only [popsF] at h
    split at h
    · next hw =>
      split at h
      · next v q1 e =>
        split at h
        · next hlf =>
          split at h
          · next L2 q2 e2 =>
            cases h
            have e' := pval_hp e hp
            have hih : ∀ (x : PV × Prop), isHeap o.op = true → pval o.op (psev T L) hp = some x → False := fun x h1 h2 => by
              cases hop : o.op <;> rw [hop] at h1 h2 <;> first | (simp [isHeap] at h1; done) | (simp [pval] at h2; done)
            have hnh : isHeap o.op = false := by
              cases hb : isHeap o.op with
              | false => rfl
              | true => exact (hih _ hb e').elim
            have hpl : (bif dr then plOk l0 ⟨L, O, hp, md, cnt⟩ T o.lo o.op v else true) = true := by
              cases dr with
              | false => rfl
              | true => exact loadF_ok hlf
            refine prg_step (st' := ⟨v :: L, (bif dr then opO l0 ⟨L, O, hp, md, cnt⟩ T o.op else false) :: O, hp, md, cnt⟩) (q := q1) ?_ hq.1 (prg_pureD e2 hq.2 hP)
            simp only [pstep, hw, hnh, e', hpl, fb_eq]
          · cases h
        · cases h
      · cases h
    · next hw =>
      split at h
      · cases h
      · next he =>
        refine prg_step (st' := ⟨.s undef :: L, false :: O, hp, md, cnt⟩) (q := True) ?_ trivial (prg_pureD h hq hP)
        simp only [pstep, hw, he, fb_eq, cond_false]
    · cases h
/-- k steps that leave the heap alone, whatever was done before. -/
theorem g_pureD {L L' : List PV} {O : List Bool} {md : List Nat} {cnt : Nat} {q : Prop} {ops' : List AOper} (k : Nat) (hk : ∀ O', PRg E p dr T ops' l0 ⟨L', O', hp, md, cnt⟩ Q) (h : popsF T (ops.take k) L = some (L', q) := by rfl) (hd : ops.drop k = ops' := by rfl) (hq : q := by (try simp only [in64, and_true, true_and]); (try omega)) : PRg E p dr T ops l0 ⟨L, O, hp, md, cnt⟩ Q := by
  subst hd
  have := prg_pureD (O := O) (ops := ops.drop k) (md := md) (cnt := cnt) h hq hk
  rwa [List.take_append_drop] at this
theorem agg_cast {cs cs' : List PV} (hl : cs.length = cs'.length) (h : ∀ (j : Nat) (c c' : PV), cs[j]? = some c → cs'[j]? = some c' → ∀ (F : Nat → Prop) (ρ : PR) (H : AH V) (w : Value), PRel F ρ H c w → PRel F ρ H c' w) (F : Nat → Prop) (ρ : PR) (H : AH V) (w : Value) (hw : PRel F ρ H (.agg cs) w) : PRel F ρ H (.agg cs') w := by
  obtain ⟨l, rfl, hL⟩ := hw.agg_inv
  refine .agg (hl ▸ hL.len) fun j c v h1 h2 => ?_
  have hj : j < cs.length := by rw [hl]; exact (List.getElem?_eq_some_iff.1 h1).1
  exact h j cs[j] c (List.getElem?_eq_getElem hj) h1 _ _ _ _ (hL.at' j _ _ (List.getElem?_eq_getElem hj) h2)
end
end Go.Proofs.Ytollibkfagjnaaa.AM

