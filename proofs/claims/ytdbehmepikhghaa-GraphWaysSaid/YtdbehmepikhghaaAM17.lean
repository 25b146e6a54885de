/- Regions that draw: names below a bound; exact states beside other blocks; the compiled order's states. -/
import Derived.Test.YtdbehmepikhghaaAM16
set_option linter.unusedVariables false
set_option linter.unusedSimpArgs false
namespace Go.Proofs.Ytdbehmepikhghaa.AM
def Rho.cut (ρ : Rho) (n : Nat) : Rho := ⟨fun b => if b < n then ρ b else none, ρ.lim⟩
theorem cut_some {ρ : Rho} {n b : Nat} {p : Nat × Nat} : ρ.cut n b = some p ↔ b < n ∧ ρ b = some p := by
  show (if b < n then ρ b else none) = some p ↔ _
  by_cases h : b < n
  · rw [if_pos h]; exact ⟨fun x => ⟨h, x⟩, fun x => x.2⟩
  · rw [if_neg h]; exact ⟨(fun x => by cases x), fun x => absurd x.1 h⟩
theorem cut_le {ρ : Rho} {n n' : Nat} (h : n ≤ n') : (ρ.cut n).le (ρ.cut n') := fun b p hb => by
  rw [cut_some] at hb
  exact ⟨cut_some.2 ⟨by omega, hb.2⟩, rfl⟩
theorem cut_mono {ρ ρ' : Rho} (h : ρ.le ρ') (n : Nat) : (ρ.cut n).le (ρ'.cut n) := fun b p hb => by
  rw [cut_some] at hb
  exact ⟨cut_some.2 ⟨hb.1, (h _ _ hb.2).1⟩, (h _ _ hb.2).2⟩
theorem cut_self {ρ : Rho} {n : Nat} : (ρ.cut n).le ρ := fun b p hb => ⟨(cut_some.1 hb).2, rfl⟩
theorem le_cut {ρ ρ' : Rho} {n : Nat} (h : ρ.le ρ') (hd : ∀ b p, ρ b = some p → b < n) : ρ.le (ρ'.cut n) := fun b p hb => ⟨cut_some.2 ⟨hd b p hb, (h _ _ hb).1⟩, (h _ _ hb).2⟩

section
variable {P : Program} {X X' : Nat → Option Obj} {w0 w : World} {ρ ρ' : Rho} {V : Type → Type} [Vec V] {H : AH V} {h : Nat → Blk}
theorem BRel.less (hX : ∀ cb, X cb = none → X' cb = none) {p : Nat × Nat} {B : Blk} (hb : BRel P X ρ w p B) : BRel P X' ρ w p B := by
  cases B with
  | dead => trivial
  | arr cs wr lo => obtain ⟨c, e, fr, h1, h2, h3, h4⟩ := hb; exact ⟨c, e, fr, h1, h2, h3, fun hw => ⟨hX _ (h4 hw).1, (h4 hw).2⟩⟩
  | loop T ps a b st pe => exact ⟨hX _ hb.1, hb.2⟩
  | defr => exact ⟨hX _ hb.1, hb.2⟩
theorem BRel.less' {p : Nat × Nat} (hX : X p.1 = none → X' p.1 = none) {B : Blk} (hb : BRel P X ρ w p B) : BRel P X' ρ w p B := by
  cases B with
  | dead => trivial
  | arr cs wr lo => obtain ⟨c, e, fr, h1, h2, h3, h4⟩ := hb; exact ⟨c, e, fr, h1, h2, h3, fun hw => ⟨hX (h4 hw).1, (h4 hw).2⟩⟩
  | loop T ps a b st pe => exact ⟨hX hb.1, hb.2⟩
  | defr => exact ⟨hX hb.1, hb.2⟩
theorem Now.rho (s : Now P X w0 ρ H w) (h1 : ρ.le ρ') (h2 : ∀ b p, ρ' b = some p → ρ b = some p) : Now P X w0 ρ' H w :=
  ⟨⟨s.st.os, s.st.tape, s.st.output, s.st.size, s.st.frame, fun b p hb => s.st.dom b p (h2 b p hb), fun b p hb => (s.st.blk b p (h2 b p hb)).mono h1, fun b b' p p' hne hb hb' hq => s.st.sep b b' p p' hne (h2 _ _ hb) (h2 _ _ hb') hq,
    fun b p cs lo hb hl => by
      obtain ⟨sz, c, e, fr, g1, g2⟩ := s.st.lim b p cs lo (h2 _ _ hb) hl
      exact ⟨sz, c, e, fr, by rw [(h1 _ _ (h2 _ _ hb)).2]; exact g1, g2⟩⟩, fun b p hb => s.dom b p (h2 b p hb)⟩
theorem Now.less (s : Now P X w0 ρ H w) (hX : ∀ cb o, X' cb = some o → X cb = some o) : Now P X' w0 ρ H w :=
  ⟨⟨s.st.os, s.st.tape, s.st.output, s.st.size, fun cb o ho => s.st.frame cb o (hX cb o ho), s.st.dom, fun b p hb => (s.st.blk b p hb).less (fun cb hc => by
      cases hq : X' cb with
      | none => rfl
      | some o => rw [hX cb o hq] at hc; cases hc), s.st.sep, s.st.lim⟩, s.dom⟩
theorem Now.drawn (s : Now P X w0 ρ H w) (n : Nat) : Now P X w0 ρ H { w with drawn := n } := ⟨s.st.drawn n, s.dom⟩
def putX (X : Nat → Option Obj) (b : Nat) (o : Option Obj) : Nat → Option Obj := fun i => if i = b then o else X i
theorem putX_same (b : Nat) (o : Option Obj) : putX X b o b = o := by simp [putX]
theorem putX_ne {b i : Nat} (o : Option Obj) (e : i ≠ b) : putX X b o i = X i := by simp [putX, e]
/-- A block beside all that is told of. -/
theorem Now.beside (s : Now P X w0 ρ H w) (o : Obj) : Now P (putX X w.heap.size (some o)) w0 ρ H (w.alloc o) := by
  have hold : ∀ k, k < w.heap.size → (w.alloc o).heap[k]? = w.heap[k]? := fun k hk => by
    show (w.heap.push o)[k]? = _
    rw [Array.getElem?_push, if_neg (by omega)]
  refine ⟨⟨s.st.os, s.st.tape, s.st.output, ?_, fun cb x hx => ?_, fun b p hb => ?_, fun b p hb => ?_, s.st.sep, fun b p cs lo hb hl => ?_⟩, s.dom⟩
  · show _ ≤ (w.heap.push o).size
    have := s.st.size
    simp; omega
  · by_cases e : cb = w.heap.size
    · subst e
      rw [putX_same] at hx
      injection hx with hx
      subst hx
      show (w.heap.push _)[w.heap.size]? = _
      simp
    · rw [putX_ne _ e] at hx
      have h1 := s.st.frame cb x hx
      rw [hold cb (Array.getElem?_eq_some_iff.1 h1).1]
      exact h1
  · show _ < (w.heap.push o).size
    have := s.st.dom b p hb
    simp; omega
  · have hd := s.st.dom b p hb
    refine BRel.heap p (BRel.less' ?_ (s.st.blk b p hb)) (hold _ hd)
    intro hc
    rw [putX_ne _ (by omega)]
    exact hc
  · obtain ⟨sz, c, e, fr, g1, g2, g3⟩ := s.st.lim b p cs lo hb hl
    exact ⟨sz, c, e, fr, g1, by rw [hold _ (s.st.dom b p hb)]; exact g2, g3⟩
/-- A block from beside becomes one of those told of. -/
theorem Now.letIn {cs : List Value} {cb : Nat} {c : Array Value} {e : TypeId} (s : Now P X w0 (ρ.cut (Vec.size H)) H w) (hp : ρ (Vec.size H) = some (cb, 0)) (hl : ρ.lim (Vec.size H) = some (cs.length, c.size)) (hx : X cb = some (.cells c e (0, 0)))
    (hsep : ∀ b p, b < Vec.size H → ρ b = some p → p.1 ≠ cb) (hle : cs.length ≤ c.size) (hr : VRels (ρ.cut (Vec.size H)) cs (c.toList.take cs.length)) :
    Now P (putX X cb none) w0 (ρ.cut (Vec.size H + 1)) (anew H cs) w := by
  have hheap := s.st.frame cb _ hx
  have hlt : cb < w.heap.size := (Array.getElem?_eq_some_iff.1 hheap).1
  have hcut : (ρ.cut (Vec.size H)).le (ρ.cut (Vec.size H + 1)) := cut_le (by omega)
  have hold : ∀ b p, (ρ.cut (Vec.size H + 1)) b = some p → b ≠ Vec.size H → (ρ.cut (Vec.size H)) b = some p := fun b p hb hne => by
    rw [cut_some] at hb ⊢
    exact ⟨by omega, hb.2⟩
  refine ⟨⟨s.st.os, s.st.tape, s.st.output, s.st.size, fun k o hk => ?_, fun b p hb => ?_, fun b p hb => ?_, fun b b' p p' hne hb hb' hq => ?_, fun b p cs' lo hb hv => ?_⟩, fun b p hb => ?_⟩
  · by_cases ek : k = cb
    · subst ek; rw [putX_same] at hk; cases hk
    · rw [putX_ne _ ek] at hk; exact s.st.frame k o hk
  · by_cases eb : b = Vec.size H
    · subst eb
      rw [cut_some, hp] at hb
      cases hb.2
      exact hlt
    · exact s.st.dom b p (hold b p hb eb)
  · rw [anew_eq, view_push]
    by_cases eb : b = Vec.size H
    · subst eb
      rw [setB_same]
      rw [cut_some, hp] at hb
      cases hb.2
      refine ⟨c, e, (0, 0), hheap, by simpa using hle, fun i v hv => ?_, fun _ => ⟨putX_same _ _, fun o _ ho => by omega⟩⟩
      obtain ⟨v', a, r⟩ := hr.get hv
      have hi : i < cs.length := (List.getElem?_eq_some_iff.1 hv).1
      rw [List.getElem?_take, if_pos hi, Array.getElem?_toList] at a
      exact ⟨v', by simpa using a, r.mono hcut⟩
    · rw [setB_ne _ _ eb]
      refine BRel.less' (fun hc => ?_) ((s.st.blk b p (hold b p hb eb)).mono hcut)
      by_cases ep : p.1 = cb
      · rw [ep]; exact putX_same _ _
      · rw [putX_ne _ ep]; exact hc
  · rw [anew_eq, view_push]
    by_cases eb : b = Vec.size H
    · subst eb
      have h1 := (cut_some.1 hb).2
      rw [hp] at h1
      cases h1
      have h2 := cut_some.1 hb'
      exact absurd hq.symm (hsep b' p' (by omega) h2.2)
    · by_cases eb' : b' = Vec.size H
      · subst eb'
        have h1 := (cut_some.1 hb').2
        rw [hp] at h1
        cases h1
        have h2 := cut_some.1 hb
        exact absurd hq (hsep b p (by omega) h2.2)
      · rw [setB_ne _ _ eb, setB_ne _ _ eb']
        exact s.st.sep b b' p p' hne (hold b p hb eb) (hold b' p' hb' eb') hq
  · rw [anew_eq, view_push] at hv
    by_cases eb : b = Vec.size H
    · subst eb
      rw [setB_same] at hv
      cases hv
      have h1 := (cut_some.1 hb).2
      rw [hp] at h1
      cases h1
      exact ⟨c.size, c, e, (0, 0), hl, hheap, Nat.le_refl _⟩
    · rw [setB_ne _ _ eb] at hv
      exact s.st.lim b p cs' lo (hold b p hb eb) hv
  · rw [anew_eq, Vec.size_push]
    exact (cut_some.1 hb).1
end

/-! ### The same cells -/
theorem bytes_beq {a b : ByteArray} (h : (a == b) = true) : a = b := by
  cases a; cases b
  rename_i a b
  have : (a == b) = true := h
  rw [eq_of_beq this]
theorem veq1_eq {u v : Value} (h : veq1 u v = true) : u = v := by
  unfold veq1 at h
  split at h
  · simp only [beq_iff_eq] at h; rw [h]
  · simp only [Bool.and_eq_true, beq_iff_eq] at h; rw [h.1, h.2]
  · rw [bytes_beq h]
  · simp only [beq_iff_eq] at h; rw [h]
  · simp only [Bool.and_eq_true, beq_iff_eq] at h; rw [h.1.1, h.1.2, h.2]
  · rfl
  · rfl
  · simp only [Bool.and_eq_true, beq_iff_eq, List.isEmpty_iff] at h
    obtain ⟨⟨⟨⟨h1, h2⟩, h3⟩, h4⟩, h5⟩ := h
    rw [h1, Array.ext' (h2.trans h3.symm), Array.ext' (h4.trans h5.symm)]
  · cases h
theorem veqs_eq : ∀ {l l' : List Value}, veqs l l' = true → l = l'
  | [], [], _ => rfl
  | a :: r, b :: s, h => by
    simp only [veqs, Bool.and_eq_true] at h
    rw [veq1_eq h.1, veqs_eq h.2]
  | [], _ :: _, h => by cases h
  | _ :: _, [], h => by cases h
theorem veq_eq {u v : Value} (h : veq u v = true) : u = v := by
  unfold veq at h
  split at h
  · exact congrArg Value.agg (Array.ext' (veqs_eq h))
  · simp only [Bool.and_eq_true, beq_iff_eq] at h
    obtain ⟨⟨h1, h2⟩, h3⟩ := h
    rw [h1, Array.ext' (veqs_eq h2), Array.ext' (veqs_eq h3)]
  · exact veq1_eq h
end Go.Proofs.Ytdbehmepikhghaa.AM
