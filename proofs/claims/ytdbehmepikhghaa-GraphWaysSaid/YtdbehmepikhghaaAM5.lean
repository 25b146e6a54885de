/- One operation of the model against one of the abstract machine: all that neither read nor write memory, in one theorem. -/
import Derived.Test.YtdbehmepikhghaaAM4
set_option linter.unusedVariables false
set_option linter.unusedSimpArgs false
namespace Go.Proofs.Ytdbehmepikhghaa.AM
section
variable {P : Program} {ρv : Operand → Value} {o : Oper} {ρ : Rho} {V : Type → Type} [Vec V] {ev : Operand → Option Value}

theorem yes_v {s : Sem Value} {v : Value} (h : Runs P s v) (he : execOp ρv o = (do pure (.value (← s)))) : Yes P ρv o v := fun w => by
  rw [he]
  simp only [Sem.run_bind, h w, Result.andThen_ok, Sem.run_pure]

/-! ### Filling -/
theorem foldl_csplice : ∀ (l : List Value) (k off : Nat) (c : Array Value), (l.zipIdx k).foldl (fun cs x => cs.setIfInBounds (off + x.2) x.1) c = csplice c (off + k) l
  | [], _, _, _ => rfl
  | v :: l, k, off, c => by
    rw [List.zipIdx_cons, List.foldl_cons, foldl_csplice l, csplice]
    rfl
theorem csplice_splice {ρ : Rho} : ∀ {vs vs' cs : List Value} {c : Array Value} {o : Nat}, VRels ρ vs vs' → VRels ρ cs c.toList → o + vs.length ≤ cs.length → VRels ρ (splice cs o vs) (csplice c o vs').toList := by
  intro vs vs' cs c o h k hl
  have h1 := h.length
  have h2 : cs.length = c.size := k.length.trans Array.length_toList
  refine VRels.of_get (by rw [splice_length, h2]; exact (Array.length_toList.trans (csplice_size vs' c o)).symm) fun i v hv => ?_
  rw [splice_get _ _ _ _ hl] at hv
  rw [Array.getElem?_toList, csplice_get _ _ _ _ (by omega)]
  by_cases hi : o ≤ i ∧ i < o + vs.length
  · rw [if_pos hi] at hv
    obtain ⟨v', a, r⟩ := h.get hv
    exact ⟨v', by rw [if_pos (by omega)]; exact a, r⟩
  · rw [if_neg hi] at hv
    obtain ⟨v', a, r⟩ := k.get hv
    exact ⟨v', by rw [if_neg (by omega), ← Array.getElem?_toList]; exact a, r⟩
inductive Parts (ρ : Rho) (place : Nat → Option (Nat × Nat)) : List (Nat × Nat × Value) → List (Nat × Value) → Prop
  | nil : Parts ρ place [] []
  | cons {off size i : Nat} {v v' : Value} {l : List (Nat × Nat × Value)} {l' : List (Nat × Value)} (hp : place i = some (off, size)) (hv : VRel ρ v v') (t : Parts ρ place l l') : Parts ρ place ((off, size, v) :: l) ((i, v') :: l')
theorem fill_rel {place : Nat → Option (Nat × Nat)} {l : List (Nat × Nat × Value)} {l' : List (Nat × Value)} (h : Parts ρ place l l') : ∀ {cs c : List Value} {cells : Array Value}, VRels ρ cs cells.toList → afill cs l = some c →
    ∃ c', Instr.fill place cells l' = some c' ∧ VRels ρ c c'.toList := by
  induction h with
  | nil => intro cs c cells hr hf; simp [afill] at hf; subst hf; exact ⟨cells, rfl, hr⟩
  | @cons off size i v v' l l' hp hv t ih =>
    intro cs c cells hr hf
    unfold afill at hf
    split at hf
    · rename_i hc
      have hl := hv.cells.length
      have hz : v'.cells.size = size := by rw [← Array.length_toList, ← hl]; exact hc.1
      have hs : cs.length = cells.size := hr.length.trans Array.length_toList
      obtain ⟨c', h1, h2⟩ := ih (csplice_splice hv.cells hr (by omega)) hf
      refine ⟨c', ?_, h2⟩
      have hfold : v'.cells.zipIdx.foldl (fun cs (c, j) => cs.setIfInBounds (off + j) c) cells = csplice cells off v'.cells.toList := by
        rw [← Array.foldl_toList, Array.toList_zipIdx]
        exact foldl_csplice _ 0 _ _
      unfold Instr.fill
      simp only [hp, hz]
      rw [if_neg (by simp; omega), hfold]
      exact h1
    · cases hf
theorem mapM_fields (fs : List Field) (h : ∀ f ∈ fs, (P.info? f.type).isSome = true) (w : World) :
    (fs.mapM fun f => (do pure (f.offset, ← sizeOf f.type) : Sem (Nat × Nat))).run P w = .ok (fs.map fun f => (f.offset, sizeT P f.type)) w := by
  induction fs with
  | nil => rfl
  | cons f fs ih =>
    obtain ⟨i, hi⟩ := Option.isSome_iff_exists.1 (h f (by simp))
    rw [List.mapM_cons]
    have ih' := ih (fun g hg => h g (by simp [hg]))
    have h1 : (do pure (f.offset, ← sizeOf f.type) : Sem (Nat × Nat)).run P w = .ok (f.offset, sizeT P f.type) w := by
      simp [sizeOf, typeInfo, hi, sizeT]
    rw [Sem.run_bind, h1, Result.andThen_ok, Sem.run_bind, ih', Result.andThen_ok]
    rfl
theorem zeroT_some {t : TypeId} {cs : List Value} (h : zeroT P t = some cs) : ∃ i z, P.info? t = some i ∧ i.zero = some z ∧ z.cells.toList = cs := by
  unfold zeroT at h
  cases hi : P.info? t with
  | none => rw [hi] at h; cases h
  | some i =>
    rw [hi] at h
    simp only [Option.bind_some] at h
    cases hz : i.zero with
    | none => rw [hz] at h; cases h
    | some z => rw [hz] at h; injection h with h; exact ⟨i, z, rfl, hz, h⟩
theorem run_zeroValue {t : TypeId} {i : TypeInfo} {z : Value} (hi : P.info? t = some i) (hz : i.zero = some z) (w : World) : (zeroValue t).run P w = .ok z w := by
  simp [zeroValue, typeInfo, hi, hz]
theorem xParts_parts (he : ERel ρ ev ρv) (place : Nat → Option (Nat × Nat)) (f : Nat × Operand → Nat × Nat) : ∀ {ps : List (Nat × Operand)} {l : List (Nat × Nat × Value)},
    (∀ p ∈ ps, place p.1 = some (f p)) → xParts ev (ps.map fun p => ((f p).1, (f p).2, p.2)) = some l → Parts ρ place l (ps.map fun p => (p.1, ρv p.2))
  | [], l, _, h => by simp [xParts] at h; subst h; exact .nil
  | p :: ps, l, hp, h => by
    simp only [List.map_cons, xParts] at h
    split at h
    · rename_i v hv
      split at h
      · rename_i vs hvs
        injection h with h
        subst h
        exact .cons (hp p (by simp)) (he _ _ hv) (xParts_parts he place f (fun q hq => hp q (by simp [hq])) hvs)
      · cases h
    · cases h
theorem xBuild_some {cs : List Value} {ps : List (Nat × Nat × Operand)} {v : Value} (h : xBuild ev cs ps = some v) : ∃ l c, xParts ev ps = some l ∧ afill cs l = some c ∧ v = .agg c.toArray := by
  unfold xBuild at h
  split at h
  · split at h
    · injection h with h; exact ⟨_, _, ‹_›, ‹_›, h.symm⟩
    · cases h
  · cases h
theorem isAggT_none {t : TypeId} (h : isAggT P t = some none) : ∃ d i, P.underlying t = some d ∧ P.info? t = some i ∧ ∀ w, (isAgg t).run P w = .ok false w := by
  unfold isAggT at h
  cases hd : P.underlying t with
  | none => rw [hd] at h; simp at h
  | some d =>
    cases hi : P.info? t with
    | none => rw [hd, hi] at h; cases d <;> simp at h
    | some i =>
      rw [hd, hi] at h
      refine ⟨d, i, rfl, rfl, fun w => ?_⟩
      unfold isAgg
      rw [Sem.run_bind, run_underlying hd]
      cases d <;> simp_all
theorem isAggT_some {t : TypeId} {n : Nat} (h : isAggT P t = some (some n)) : ∃ d i, P.underlying t = some d ∧ d.isRow = true ∧ P.info? t = some i ∧ i.size = n ∧ ∀ w, (isAgg t).run P w = .ok true w := by
  unfold isAggT at h
  split at h
  · rename_i fs i hd hi
    injection h with h; injection h with h
    exact ⟨_, i, hd, rfl, hi, h, fun w => by unfold isAgg; rw [Sem.run_bind, run_underlying hd]; rfl⟩
  · rename_i fs i hd hi
    injection h with h; injection h with h
    exact ⟨_, i, hd, rfl, hi, h, fun w => by unfold isAgg; rw [Sem.run_bind, run_underlying hd]; rfl⟩
  · injection h with h; cases h
  · cases h
theorem part_rel {t : TypeId} {n : Option Nat} (hn : isAggT P t = some n) {cs : List Value} {c : Array Value} {off : Nat} {v : Value} (hr : VRels ρ cs c.toList) (h : acells cs n off = some v) :
    ∃ v', VRel ρ v v' ∧ Runs P (part t c off) v' := by
  cases n with
  | none =>
    obtain ⟨d, i, hd, hi, hagg⟩ := isAggT_none hn
    simp only [acells] at h
    obtain ⟨v', hv', r⟩ := hr.get h
    rw [Array.getElem?_toList] at hv'
    exact ⟨v', r, fun w => by simp only [part, Sem.run_bind, hagg w, Result.andThen_ok, Bool.false_eq_true, if_false, hv', Sem.run_pure]⟩
  | some n =>
    obtain ⟨d, i, hd, hrow, hi, hsz, hagg⟩ := isAggT_some hn
    simp only [acells] at h
    split at h
    · rename_i hl
      injection h with h
      subst h
      refine ⟨.agg (c.extract off (off + n)), .agg ?_, fun w => by simp only [part, Sem.run_bind, hagg w, Result.andThen_ok, if_true, sizeOf, typeInfo, program, Sem.run, hi, Sem.run_pure, hsz]⟩
      have : (c.extract off (off + n)).toList = (c.toList.drop off).take n := by simp [List.extract_eq_take_drop]
      rw [this]
      simpa using (hr.drop off).take n
    · cases h

theorem build_run_struct {t : TypeId} {fs : Array Field} (hu : P.underlying t = some (.struct fs)) (hfs : ∀ f ∈ fs.toList, (P.info? f.type).isSome = true) {z : Value} {w : World} (hz : (zeroValue t).run P w = .ok z w)
    (ps : Array (Nat × Value)) {c' : Array Value} (hf : Instr.fill (fun i => (fs.map fun f => (f.offset, sizeT P f.type))[i]?) z.cells ps.toList = some c') : (Instr.build t ps).run P w = .ok (.agg c') w := by
  have hm : (fs.mapM fun f => (do pure (f.offset, ← sizeOf f.type) : Sem (Nat × Nat))).run P w = .ok (fs.map fun f => (f.offset, sizeT P f.type)) w := by
    rw [Array.mapM_eq_mapM_toList, Sem.run_map, mapM_fields fs.toList hfs w]
    simp [Result.andThen]
    apply Array.ext'
    simp
  unfold Instr.build
  rw [Sem.run_bind, hz, Result.andThen_ok, Sem.run_bind, run_underlying hu, Result.andThen_ok]
  simp only []
  rw [Sem.run_bind, hm, Result.andThen_ok, hf]
  rfl
theorem build_run_array {t e : TypeId} {n : Nat} (hu : P.underlying t = some (.array n e)) (hi : (P.info? e).isSome = true) {z : Value} {w : World} (hz : (zeroValue t).run P w = .ok z w)
    (ps : Array (Nat × Value)) {c' : Array Value} (hf : Instr.fill (fun i => some (i * sizeT P e, sizeT P e)) z.cells ps.toList = some c') : (Instr.build t ps).run P w = .ok (.agg c') w := by
  obtain ⟨i, hi0⟩ := Option.isSome_iff_exists.1 hi
  have hsz : (sizeOf e).run P w = .ok (sizeT P e) w := by simp [sizeOf, typeInfo, hi0, sizeT]
  unfold Instr.build
  rw [Sem.run_bind, hz, Result.andThen_ok, Sem.run_bind, run_underlying hu, Result.andThen_ok]
  simp only []
  rw [Sem.run_bind, hsz, Result.andThen_ok, hf]
  rfl
variable {H H' : AH V} {v : Value}
theorem build_sound (he : ERel ρ ev ρv) {t : TypeId} {ps : Array (Nat × Operand)} {cs : List Value} (f : Nat × Operand → Nat × Nat) (place : Nat → Option (Nat × Nat)) (hz : zeroT P t = some cs) (hfl : cs.all flat1 = true)
    (hpl : ∀ p ∈ ps.toList, place p.1 = some (f p))
    (hrun : ∀ (z : Value) (w : World), (zeroValue t).run P w = .ok z w → ∀ c', Instr.fill place z.cells (ps.toList.map fun p => (p.1, ρv p.2)) = some c' → (Instr.build t (ps.map fun p => (p.1, ρv p.2))).run P w = .ok (.agg c') w)
    (h1 : xBuild ev cs (ps.toList.map fun p => ((f p).1, (f p).2, p.2)) = some v) : ∃ v', VRel ρ v v' ∧ Runs P (Instr.build t (ps.map fun p => (p.1, ρv p.2))) v' := by
  obtain ⟨l, c, hl, hc, rfl⟩ := xBuild_some h1
  obtain ⟨i, z, hi, hz0, hzc⟩ := zeroT_some hz
  obtain ⟨c', hf, hr⟩ := fill_rel (xParts_parts he place f hpl hl) (cs := cs) (cells := z.cells) (by rw [hzc]; exact VRels.flat fun u hu => flat_of_flat1 (List.all_eq_true.1 hfl u hu)) hc
  exact ⟨_, .agg (by simpa using hr), fun w => hrun z w (run_zeroValue hi hz0 w) c' hf⟩

/-! ### Operations on values without addresses -/
theorem flatSem_exec {fo : FOp} {l : List Value} {v : Value} (h : aflat P fo l = some v) : l.all flat = true ∧ flat v = true ∧ Runs P (flatSem fo l) v := by
  unfold aflat at h
  split at h
  · rename_i hall
    split at h
    · rename_i u hu
      split at h
      · rename_i hf
        injection h with h
        subst h
        exact ⟨hall, hf, fun w => pureRun_run hu w⟩
      · cases h
    · cases h
  · cases h

def isPure {χ : Type} : AOp χ → Bool
  | .bad | .load .. | .store .. | .alloc .. | .box .. | .mkarr .. | .mkslice .. | .append .. | .copy .. | .call .. => false
  | _ => true

variable {H H' : AH V} {v : Value} {call : Value → List Value → AH V → Option (Value × AH V)} {share : Bool}
theorem orel (he : ERel ρ ev ρv) {x : Option Operand} {r : Option Value} (h : xo ev x = some r) : ORel ρ r (x.map ρv) := by
  rcases xo_some h with ⟨rfl, rfl⟩ | ⟨y, u, rfl, h1, rfl⟩
  · exact .none
  · exact .some (he _ _ h1)

theorem guard_of_aeqn {kd : Nat} {a b : Value} {r : Bool} (h : aeqn kd a b = some r) : passG a b = true := by
  match kd, a, b, h with
  | 0, .slice none _ _, .slice _ _ _, _ => rfl
  | 0, .slice (some _) _ _, .slice none _ _, _ => rfl
  | 1, .pointer none, .pointer _, _ => rfl
  | 1, .pointer (some _), .pointer none, _ => rfl
  | 2, .nilFunc, .nilFunc, _ => rfl
  | 2, .nilFunc, .func _ _ _, _ => rfl
  | 2, .func _ _ _, .nilFunc, _ => rfl
theorem pure_binOp (he : ERel ρ ev ρv) {op : BinOp} {t yt type : TypeId} {x y : Operand} {dst : Option Tmp} {pos : String} {after : Array Edge} {guard : Option (Nat × Bool)}
    (hp : isPure (compileOp P share ⟨dst, .binOp op t x y yt, type, pos, after, guard⟩) = true) (h : aexec P call (compileOp P share ⟨dst, .binOp op t x y yt, type, pos, after, guard⟩) ev H = some (v, H')) :
    H' = H ∧ ∃ v', VRel ρ v v' ∧ Yes P ρv ⟨dst, .binOp op t x y yt, type, pos, after, guard⟩ v' := by
  simp only [compileOp] at hp h
  split at hp
  · rename_i k hu
    rw [hu] at h
    obtain ⟨h1, h2⟩ := withH_some h
    obtain ⟨a, b, ha, hb, hf⟩ := x2_some h1
    unfold abin at hf
    split at hf
    · have ea := (he _ _ ha).int
      have eb := (he _ _ hb).int
      obtain ⟨_, hfl⟩ := abin_run (P := P) (t := t) hf default
      exact ⟨h2, v, .flat hfl, yes_binOp rfl (by rw [ea, eb]; rfl) (fun w => by rw [ea, eb]; exact (abin_run hf w).1)⟩
    · cases hf
  · rename_i hu
    rw [hu] at h
    obtain ⟨h1, h2⟩ := withH_some h
    obtain ⟨a, b, ha, hb, hf⟩ := x2_some h1
    unfold fSbin at hf
    split at hf
    · have ea := (he _ _ ha).string
      have eb := (he _ _ hb).string
      obtain ⟨hr, hfl⟩ := run_sbin (P := P) (t := t) hf
      exact ⟨h2, v, .flat hfl, yes_binOp rfl (by rw [ea, eb]; rfl) (by rw [ea, eb]; exact hr)⟩
    · cases hf
  · rename_i hu
    rw [hu] at h
    have key : ∀ neg, withH H (x2 (fBeq neg) ev x y) = some (v, H') → H' = H ∧ ∃ a b : Bool, ρv x = .bool a ∧ ρv y = .bool b ∧ v = .bool ((a == b) != neg) := by
      intro neg h
      obtain ⟨h1, h2⟩ := withH_some h
      obtain ⟨a, b, ha, hb, hf⟩ := x2_some h1
      unfold fBeq at hf
      split at hf
      · injection hf with hf
        exact ⟨h2, _, _, (he _ _ ha).bool, (he _ _ hb).bool, hf.symm⟩
      · cases hf
    split at hp
    · obtain ⟨h2, a, b, ea, eb, rfl⟩ := key false h
      exact ⟨h2, _, .flat rfl, yes_binOp rfl (by rw [ea, eb]; rfl) (by rw [ea, eb]; simpa using (run_beq hu a b).1)⟩
    · obtain ⟨h2, a, b, ea, eb, rfl⟩ := key true h
      exact ⟨h2, _, .flat rfl, yes_binOp rfl (by rw [ea, eb]; rfl) (by rw [ea, eb]; simpa using (run_beq hu a b).2)⟩
    · simp [isPure] at hp
  · rename_i e hu
    rw [hu] at h
    have key : ∀ neg, withH H (x2 (fEqn 0 neg) ev x y) = some (v, H') → H' = H ∧ ∃ r, aeqn 0 (ρv x) (ρv y) = some r ∧ v = .bool (r != neg) := by
      intro neg h
      obtain ⟨h1, h2⟩ := withH_some h
      obtain ⟨a, b, ha, hb, hf⟩ := x2_some h1
      unfold fEqn at hf
      split at hf
      · injection hf with hf
        exact ⟨h2, _, aeqn_rel (he _ _ ha) (he _ _ hb) (by assumption), hf.symm⟩
      · cases hf
    have guard_ok := fun r (hr : aeqn 0 (ρv x) (ρv y) = some r) => guard_of_aeqn hr
    split at hp
    · obtain ⟨h2, r, hr, rfl⟩ := key false h
      exact ⟨h2, _, .flat rfl, yes_binOp rfl (guard_ok r hr) (by simpa using (run_eqn_slice hu hr).1)⟩
    · obtain ⟨h2, r, hr, rfl⟩ := key true h
      exact ⟨h2, _, .flat rfl, yes_binOp rfl (guard_ok r hr) (by simpa using (run_eqn_slice hu hr).2)⟩
    · simp [isPure] at hp
  · rename_i e hu
    rw [hu] at h
    have key : ∀ neg, withH H (x2 (fEqn 1 neg) ev x y) = some (v, H') → H' = H ∧ ∃ r, aeqn 1 (ρv x) (ρv y) = some r ∧ v = .bool (r != neg) := by
      intro neg h
      obtain ⟨h1, h2⟩ := withH_some h
      obtain ⟨a, b, ha, hb, hf⟩ := x2_some h1
      unfold fEqn at hf
      split at hf
      · injection hf with hf
        exact ⟨h2, _, aeqn_rel (he _ _ ha) (he _ _ hb) (by assumption), hf.symm⟩
      · cases hf
    have guard_ok := fun r (hr : aeqn 1 (ρv x) (ρv y) = some r) => guard_of_aeqn hr
    split at hp
    · obtain ⟨h2, r, hr, rfl⟩ := key false h
      exact ⟨h2, _, .flat rfl, yes_binOp rfl (guard_ok r hr) (by simpa using (run_eqn_pointer hu hr).1)⟩
    · obtain ⟨h2, r, hr, rfl⟩ := key true h
      exact ⟨h2, _, .flat rfl, yes_binOp rfl (guard_ok r hr) (by simpa using (run_eqn_pointer hu hr).2)⟩
    · simp [isPure] at hp
  · rename_i ps rs vr hu
    rw [hu] at h
    have key : ∀ neg, withH H (x2 (fEqn 2 neg) ev x y) = some (v, H') → H' = H ∧ ∃ r, aeqn 2 (ρv x) (ρv y) = some r ∧ v = .bool (r != neg) := by
      intro neg h
      obtain ⟨h1, h2⟩ := withH_some h
      obtain ⟨a, b, ha, hb, hf⟩ := x2_some h1
      unfold fEqn at hf
      split at hf
      · injection hf with hf
        exact ⟨h2, _, aeqn_rel (he _ _ ha) (he _ _ hb) (by assumption), hf.symm⟩
      · cases hf
    have guard_ok := fun r (hr : aeqn 2 (ρv x) (ρv y) = some r) => guard_of_aeqn hr
    split at hp
    · obtain ⟨h2, r, hr, rfl⟩ := key false h
      exact ⟨h2, _, .flat rfl, yes_binOp rfl (guard_ok r hr) (by simpa using (run_eqn_func hu hr).1)⟩
    · obtain ⟨h2, r, hr, rfl⟩ := key true h
      exact ⟨h2, _, .flat rfl, yes_binOp rfl (guard_ok r hr) (by simpa using (run_eqn_func hu hr).2)⟩
    · simp [isPure] at hp
  · rename_i d hd hd1 hd2 hd3 hd4 hd5 hu
    have hq : compileOp P share ⟨dst, .binOp op t x y yt, type, pos, after, guard⟩ = .flat (.bin op t x y) [x, y] := by
      simp only [compileOp, hu]
    simp only [compileOp] at hq
    rw [hq] at h
    obtain ⟨h1, h2⟩ := withH_some h
    obtain ⟨l, hl, hf⟩ := xs_some h1
    obtain ⟨a, r1, ha, hr1, rfl⟩ := evs_cons hl
    obtain ⟨b, r2, hb, hr2, rfl⟩ := evs_cons hr1
    obtain rfl := evs_nil hr2
    obtain ⟨hall, hfl, hrun⟩ := flatSem_exec hf
    simp only [List.all_cons, Bool.and_eq_true] at hall
    have ea := (he _ _ ha).of_flat hall.1
    have eb := (he _ _ hb).of_flat hall.2.1
    refine ⟨h2, v, .flat hfl, fun w => ?_⟩
    have := hrun w
    simp only [flatSem] at this
    simp only [execOp, ea, eb, Sem.run_bind] at this ⊢
    rw [this]
    rfl
  · simp [isPure] at hp

theorem exec_builtin {b : Builtin} {args : Array Operand} {argTypes : Array TypeId} {type : TypeId} {dst : Option Tmp} {pos : String} {after : Array Edge} {guard : Option (Nat × Bool)} {s : Sem Value}
    (h : ∀ consts, builtin b argTypes type consts (args.map ρv) = (do pure (.value (← s)))) :
    execOp ρv ⟨dst, .call ⟨.builtin b, args, argTypes⟩, type, pos, after, guard⟩ = (do pure (.value (← s))) := by
  simp only [execOp, resolve]
  show (do let d ← (pure _ : Sem Deferred); invoke d.target d.args) = _
  exact h _
theorem pure_builtin (he : ERel ρ ev ρv) {b : Builtin} {args : Array Operand} {argTypes : Array TypeId} {type : TypeId} {dst : Option Tmp} {pos : String} {after : Array Edge} {guard : Option (Nat × Bool)}
    (hp : isPure (compileOp P share ⟨dst, .call ⟨.builtin b, args, argTypes⟩, type, pos, after, guard⟩) = true) (h : aexec P call (compileOp P share ⟨dst, .call ⟨.builtin b, args, argTypes⟩, type, pos, after, guard⟩) ev H = some (v, H')) :
    H' = H ∧ ∃ v', VRel ρ v v' ∧ Yes P ρv ⟨dst, .call ⟨.builtin b, args, argTypes⟩, type, pos, after, guard⟩ v' := by
  have hargs : ∀ l : List Operand, args.toList = l → args.map ρv = (l.map ρv).toArray := fun l hl => by
    apply Array.ext'; simp [hl]
  have htys : ∀ l : List TypeId, argTypes.toList = l → argTypes = l.toArray := fun l hl => by
    apply Array.ext'; simp [hl]
  simp only [compileOp] at hp h
  revert hp h
  split
  · rename_i x t ha ht
    have e1 := hargs _ ha
    have e2 := htys _ ht
    split
    · rename_i e hu
      intro hp h
      obtain ⟨h1, h2⟩ := withH_some h
      obtain ⟨a, hx, hf⟩ := x1_some h1
      unfold fLen at hf
      split at hf
      · rename_i ad n ce
        injection hf with hf
        subst hf
        have hv : ∃ ad' c', ρv x = .slice ad' n c' := by
          have hr := he _ _ hx
          cases ad with
          | none => obtain ⟨rfl, rfl, hv⟩ := hr.sl_none; exact ⟨_, _, hv⟩
          | some ad =>
            rcases hr.sl_any with hsp | ⟨rfl, _, a', c', hv, _⟩
            case inr => exact ⟨_, _, hv⟩
            obtain ⟨b, o, cb, co, rfl, hρ, hv⟩ := hr.sl_some hsp
            rcases hv with ⟨c', hv, _⟩ | ⟨rfl, _, o', c', hv, _⟩
            · exact ⟨_, _, hv⟩
            · exact ⟨_, _, hv⟩
        obtain ⟨ad', c', hv⟩ := hv
        refine ⟨h2, _, .flat rfl, yes_v (s := Builtin.len_ argTypes type (args.map ρv)) (fun w => ?_) (exec_builtin fun _ => rfl)⟩
        rw [e1, e2]
        simp [Builtin.len_, hv, run_underlying hu, goInt]
      · cases hf
    · rename_i hu
      intro hp h
      obtain ⟨h1, h2⟩ := withH_some h
      obtain ⟨a, hx, hf⟩ := x1_some h1
      unfold fSlen at hf
      split at hf
      · injection hf with hf
        subst hf
        have hv := (he _ _ hx).string
        refine ⟨h2, _, .flat rfl, yes_v (s := Builtin.len_ argTypes type (args.map ρv)) (fun w => ?_) (exec_builtin fun _ => rfl)⟩
        rw [e1, e2, bytes_length]
        simp [Builtin.len_, hv, run_underlying hu, goInt]
      · cases hf
    · intro hp h; simp [isPure] at hp
  · intro hp h
    obtain ⟨h1, h2⟩ := withH_some h
    obtain ⟨l, hl, hf⟩ := xs_some h1
    obtain ⟨hall, hfl, hrun⟩ := flatSem_exec hf
    have ea := (he.evs hl).of_flat hall
    refine ⟨h2, v, .flat hfl, yes_v (s := Builtin.min_ argTypes type (args.map ρv)) ?_ (exec_builtin fun _ => rfl)⟩
    rw [hargs _ rfl, ea]
    exact hrun
  · intro hp h
    obtain ⟨h1, h2⟩ := withH_some h
    obtain ⟨l, hl, hf⟩ := xs_some h1
    obtain ⟨hall, hfl, hrun⟩ := flatSem_exec hf
    have ea := (he.evs hl).of_flat hall
    refine ⟨h2, v, .flat hfl, yes_v (s := Builtin.max_ argTypes type (args.map ρv)) ?_ (exec_builtin fun _ => rfl)⟩
    rw [hargs _ rfl, ea]
    exact hrun
  · (repeat' split) <;> (intro hp h; simp [isPure] at hp)
  · split
    · split
      · intro hp h; simp [isPure] at hp
      · intro hp h; simp [isPure] at hp
    · intro hp h; simp [isPure] at hp
  · intro hp h; simp [isPure] at hp

/-- WHAT NEITHER READS NOR WRITES: in whatever world. -/
theorem pure_sound (he : ERel ρ ev ρv) (hp : isPure (compileOp P share o) = true) (h : aexec P call (compileOp P share o) ev H = some (v, H')) : H' = H ∧ ∃ v', VRel ρ v v' ∧ Yes P ρv o v' := by
  obtain ⟨dst, op, type, pos, after, guard⟩ := o
  cases op <;> simp only [compileOp] at hp h <;> (try (simp [isPure] at hp; done)) <;> (try (exfalso; revert hp; (repeat' split) <;> simp [isPure]; done))
  case move x =>
    obtain ⟨h1, h2⟩ := withH_some h
    exact ⟨h2, _, he _ _ h1, fun w => rfl⟩
  case assign x =>
    obtain ⟨h1, h2⟩ := withH_some h
    exact ⟨h2, _, he _ _ h1, fun w => rfl⟩
  case pick c a b =>
    obtain ⟨h1, h2⟩ := withH_some h
    unfold xPick at h1
    split at h1
    · rename_i t hc
      have ht := (he _ _ hc).bool
      refine ⟨h2, ?_⟩
      cases t with
      | true => exact ⟨_, he _ _ h1, fun w => by simp [execOp, ht, asBool]⟩
      | false => exact ⟨_, he _ _ h1, fun w => by simp [execOp, ht, asBool]⟩
    · cases h1
  case build t ps =>
    split at hp
    · rename_i fs cs hu hz
      rw [hu, hz] at h
      simp only at h hp
      split at hp
      · rename_i hc
        rw [if_pos hc] at h
        simp only [Bool.and_eq_true, List.all_eq_true, decide_eq_true_eq] at hc
        obtain ⟨⟨hc1, hc2⟩, hc3⟩ := hc
        obtain ⟨h1, h2⟩ := withH_some h
        obtain ⟨v', hr, hv⟩ := build_sound (P := P) he (t := t) (ps := ps) (cs := cs) (fun p => (((fs[p.1]?).map (·.offset)).getD 0, sizeT P (((fs[p.1]?).map (·.type)).getD 0))) (fun i => (fs.map fun f => (f.offset, sizeT P f.type))[i]?) hz (List.all_eq_true.2 hc1)
          (fun p hp => by have := hc3 p hp; simp [Array.getElem?_eq_getElem this])
          (fun z w hzw c' hf => build_run_struct hu hc2 hzw _ (by simpa using hf)) h1
        exact ⟨h2, v', hr, yes_v hv rfl⟩
      · simp [isPure] at hp
    · rename_i n e cs hu hz
      rw [hu, hz] at h
      simp only at h hp
      split at hp
      · rename_i hc
        rw [if_pos hc] at h
        rw [Bool.and_eq_true] at hc
        obtain ⟨h1, h2⟩ := withH_some h
        obtain ⟨v', hr, hv⟩ := build_sound (P := P) he (t := t) (ps := ps) (cs := cs) (fun p => (p.1 * sizeT P e, sizeT P e)) (fun i => some (i * sizeT P e, sizeT P e)) hz hc.1
          (fun p hp => rfl)
          (fun z w hzw c' hf => build_run_array hu hc.2 hzw _ (by simpa using hf)) h1
        exact ⟨h2, v', hr, yes_v hv rfl⟩
      · simp [isPure] at hp
    · simp [isPure] at hp
  case binOp op t x y yt => exact pure_binOp (share := share) he hp h
  case unOp op t x =>
    split at h
    · obtain ⟨h1, h2⟩ := withH_some h
      obtain ⟨a, ha, hf⟩ := x1_some h1
      unfold fNot at hf
      split at hf
      · injection hf with hf
        subst hf
        have ea := (he _ _ ha).bool
        exact ⟨h2, _, .flat rfl, yes_v (s := Op.unary .not (ρv x)) (fun w => by rw [ea]; rfl) rfl⟩
      · cases hf
    · obtain ⟨h1, h2⟩ := withH_some h
      obtain ⟨l, hl, hf⟩ := xs_some h1
      obtain ⟨a, r1, ha, hr1, rfl⟩ := evs_cons hl
      obtain rfl := evs_nil hr1
      obtain ⟨hall, hfl, hrun⟩ := flatSem_exec hf
      simp only [List.all_cons, Bool.and_eq_true] at hall
      have ea := (he _ _ ha).of_flat hall.1
      exact ⟨h2, v, .flat hfl, yes_v (s := Op.unary op (ρv x)) (by rw [ea]; exact hrun) rfl⟩
  case convert s d x =>
    split at h
    · rename_i k1 k hs hd
      obtain ⟨h1, h2⟩ := withH_some h
      obtain ⟨a, ha, hf⟩ := x1_some h1
      unfold fConv at hf
      split at hf
      · injection hf with hf
        subst hf
        have ea := (he _ _ ha).int
        refine ⟨h2, _, .flat rfl, yes_v (s := convert s d (ρv x)) (fun w => ?_) rfl⟩
        rw [ea, aw_eq]
        simp [convert, run_underlying hs, run_underlying hd, Conv.intToInt]
      · cases hf
    · cases h
    · cases h
    · cases h
    · cases h
    · obtain ⟨h1, h2⟩ := withH_some h
      obtain ⟨l, hl, hf⟩ := xs_some h1
      obtain ⟨a, r1, ha, hr1, rfl⟩ := evs_cons hl
      obtain rfl := evs_nil hr1
      obtain ⟨hall, hfl, hrun⟩ := flatSem_exec hf
      simp only [List.all_cons, Bool.and_eq_true] at hall
      have ea := (he _ _ ha).of_flat hall.1
      exact ⟨h2, v, .flat hfl, yes_v (s := convert s d (ρv x)) (by rw [ea]; exact hrun) rfl⟩
  case slice t x lo hi mx =>
    split at hp
    · rename_i e hu
      rw [hu] at h
      simp only at h
      split at hp
      · rename_i hi0
        rw [if_pos hi0] at h
        rw [Bool.and_eq_true, decide_eq_true_eq] at hi0
        obtain ⟨h1, h2⟩ := withH_some h
        unfold xCut at h1
        split at h1
        · obtain ⟨v', hr, hv⟩ := asliceV_sound (P := P) hu hi0.1 hi0.2 rfl (he _ _ (by assumption)) (orel he (by assumption)) (orel he (by assumption)) (orel he (by assumption)) h1
          exact ⟨h2, v', hr, yes_v hv rfl⟩
        · cases h1
      · simp [isPure] at hp
    · rename_i n e hu
      rw [hu] at h
      simp only at h
      split at hp
      · rename_i hi0
        rw [if_pos hi0] at h
        obtain ⟨h1, h2⟩ := withH_some h
        unfold xCut at h1
        split at h1
        · obtain ⟨v', hr, hv⟩ := aslarr_sound (P := P) hu hi0 rfl (he _ _ (by assumption)) (orel he (by assumption)) (orel he (by assumption)) (orel he (by assumption)) h1
          exact ⟨h2, v', hr, yes_v hv rfl⟩
        · cases h1
      · simp [isPure] at hp
    · rename_i hu
      rw [hu] at h
      simp only at h
      split at hp
      · simp [isPure] at hp
      · rename_i hm
        rw [if_neg hm] at h
        obtain ⟨h1, h2⟩ := withH_some h
        unfold xScut at h1
        split at h1
        · obtain ⟨hr, hv⟩ := fScut_sound (P := P) hu (he _ _ (by assumption)) (orel he (by assumption)) (orel he (by assumption)) h1
          refine ⟨h2, v, hr, yes_v hv ?_⟩
          have : mx = none := by cases mx with | none => rfl | some _ => simp at hm
          subst this
          rfl
        · cases h1
    · simp [isPure] at hp
  case fieldAddr s x f =>
    split at hp
    · rename_i fs hu
      rw [hu] at h
      simp only at h
      split at hp
      · rename_i fd hfd
        rw [hfd] at h
        simp only at h
        split at hp
        · simp [isPure] at hp
        · rename_i hz
          rw [if_neg hz] at h
          obtain ⟨h1, h2⟩ := withH_some h
          obtain ⟨a, ha, hf⟩ := x1_some h1
          unfold fFaddr at hf
          split at hf
          · injection hf with hf
            subst hf
            obtain ⟨b, o, cb, co, rfl, hρ, hv⟩ := (he _ _ ha).ptr_some
            refine ⟨h2, .pointer (some ⟨cb, co + o + fd.offset, none⟩), ?_, yes_v (s := Instr.fieldAt s (ρv x) f) (fun w => ?_) rfl⟩
            · rw [add_mk, Nat.add_assoc]; exact .ptr hρ
            · have hsz : (sizeOf fd.type).run P w = .ok (sizeT P fd.type) w := by
                cases hi : P.info? fd.type with
                | none => simp [sizeT, hi] at hz
                | some i => simp [sizeOf, typeInfo, hi, sizeT]
              rw [hv]
              simp only [Instr.fieldAt, Sem.run_bind, run_underlying hu, Result.andThen_ok, hfd, Instr.sureAddr, Sem.run_pure, fieldPlace, hsz, if_neg hz, add_mk]
          · cases hf
      · simp [isPure] at hp
    · simp [isPure] at hp
  case field s x f =>
    split at hp
    · rename_i fs hu
      rw [hu] at h
      simp only at h
      split at hp
      · rename_i fd hfd
        rw [hfd] at h
        simp only at h
        split at hp
        · rename_i n hn
          rw [hn] at h
          obtain ⟨h1, h2⟩ := withH_some h
          obtain ⟨a, ha, hf⟩ := x1_some h1
          unfold fFld at hf
          split at hf
          · obtain ⟨c, hv, hr⟩ := (he _ _ ha).agg_inv
            obtain ⟨v', hr', hrun⟩ := part_rel (P := P) hn hr hf
            refine ⟨h2, v', hr', yes_v (s := Instr.field s (ρv x) f) (fun w => ?_) rfl⟩
            rw [hv]
            simp only [Instr.field, Sem.run_bind, run_underlying hu, Result.andThen_ok, hfd, asAgg, Sem.run_pure, hrun w]
          · cases hf
        · simp [isPure] at hp
      · simp [isPure] at hp
    · simp [isPure] at hp
  case indexAddr t x i =>
    split at hp
    · rename_i e hu
      rw [hu] at h
      simp only at h
      split at hp
      · rename_i hi0
        rw [if_pos hi0] at h
        obtain ⟨h1, h2⟩ := withH_some h
        obtain ⟨a, b, ha, hb, hf⟩ := x2_some h1
        unfold aindex at hf
        split at hf
        · rename_i ad n ce k j
          split at hf
          · rename_i hj
            injection hf with hf
            subst hf
            obtain ⟨i1, hi1⟩ := Option.isSome_iff_exists.1 hi0
            have eb := (he _ _ hb).int
            rcases (he _ _ ha).sl_any with hsp | ⟨rfl, _⟩
            case inr => omega
            obtain ⟨b, o, cb, co, rfl, hρ, hv⟩ := (he _ _ ha).sl_some hsp
            rcases hv with ⟨c', hv, _⟩ | ⟨rfl, _⟩
            · refine ⟨h2, .pointer (some ⟨cb, co + o + j.toNat * sizeT P e, none⟩), ?_, yes_v (s := Instr.indexAt t (ρv x) (ρv i)) (fun w => ?_) rfl⟩
              · rw [add_mk, Nat.add_assoc]; exact .ptr hρ
              · have hsz : (sizeOf e).run P w = .ok (sizeT P e) w := by simp [sizeOf, typeInfo, hi1, sizeT]
                rw [hv, eb]
                simp only [Instr.indexAt, asIntOf, Sem.run_bind, Sem.run_pure, Result.andThen_ok, run_underlying hu, if_pos hj, hsz, add_mk]
            · omega
          · cases hf
        · cases hf
      · simp [isPure] at hp
    · rename_i len e hu
      rw [hu] at h
      simp only at h
      split at hp
      · rename_i hi0
        rw [if_pos hi0] at h
        obtain ⟨h1, h2⟩ := withH_some h
        obtain ⟨a, b, ha, hb, hf⟩ := x2_some h1
        unfold aindexA at hf
        split at hf
        · rename_i ad k j
          split at hf
          · rename_i hj
            injection hf with hf
            subst hf
            obtain ⟨i1, hi1⟩ := Option.isSome_iff_exists.1 hi0
            have eb := (he _ _ hb).int
            obtain ⟨b, o, cb, co, rfl, hρ, hv⟩ := (he _ _ ha).ptr_some
            refine ⟨h2, .pointer (some ⟨cb, co + o + j.toNat * sizeT P e, none⟩), ?_, yes_v (s := Instr.indexAt t (ρv x) (ρv i)) (fun w => ?_) rfl⟩
            · rw [add_mk, Nat.add_assoc]; exact .ptr hρ
            · have hsz : (sizeOf e).run P w = .ok (sizeT P e) w := by simp [sizeOf, typeInfo, hi1, sizeT]
              rw [hv, eb]
              simp only [Instr.indexAt, asIntOf, Sem.run_bind, Sem.run_pure, Result.andThen_ok, run_underlying hu, Instr.sureAddr, if_pos hj, hsz, add_mk]
          · cases hf
        · cases hf
      · simp [isPure] at hp
    · simp [isPure] at hp
  case index t x i =>
    split at h
    · rename_i hu
      obtain ⟨h1, h2⟩ := withH_some h
      obtain ⟨a, b, ha, hb, hf⟩ := x2_some h1
      unfold fSidx at hf
      split at hf
      · rename_i s k j
        split at hf
        · rename_i hj
          split at hf
          · rename_i c hc
            injection hf with hf
            subst hf
            have ea := (he _ _ ha).string
            have eb := (he _ _ hb).int
            refine ⟨h2, _, .flat rfl, yes_v (s := Instr.index t (ρv x) (ρv i)) (fun w => ?_) rfl⟩
            have hs : s[j.toNat]? = some c := by
              rw [← hc]
              simp only [bytesOf]
              rw [Array.getElem?_toList]
              rfl
            rw [ea, eb]
            simp only [Instr.index, asIntOf, Sem.run_bind, Sem.run_pure, Result.andThen_ok, run_underlying hu, if_pos hj, hs]
          · cases hf
        · cases hf
      · cases hf
    · rename_i d hd hu
      obtain ⟨h1, h2⟩ := withH_some h
      obtain ⟨l, hl, hf⟩ := xs_some h1
      obtain ⟨a, r1, ha, hr1, rfl⟩ := evs_cons hl
      obtain ⟨b, r2, hb, hr2, rfl⟩ := evs_cons hr1
      obtain rfl := evs_nil hr2
      obtain ⟨hall, hfl, hrun⟩ := flatSem_exec hf
      simp only [List.all_cons, Bool.and_eq_true] at hall
      have ea := (he _ _ ha).of_flat hall.1
      have eb := (he _ _ hb).of_flat hall.2.1
      exact ⟨h2, v, .flat hfl, yes_v (s := Instr.index t (ρv x) (ρv i)) (by rw [ea, eb]; exact hrun) rfl⟩
    · cases h
  case extract x i =>
    obtain ⟨h1, h2⟩ := withH_some h
    obtain ⟨a, ha, hf⟩ := x1_some h1
    unfold fExt at hf
    split at hf
    · obtain ⟨c, hv, hr⟩ := (he _ _ ha).tup_inv
      obtain ⟨v', hv', r⟩ := hr.get hf
      rw [Array.getElem?_toList] at hv'
      exact ⟨h2, v', r, yes_v (s := Instr.extract (ρv x) i) (fun w => by rw [hv]; simp only [Instr.extract, hv', Sem.run_pure]) rfl⟩
    · cases hf
  case makeFunc fn first captured =>
    split at hp
    · rename_i f
      obtain ⟨h1, h2⟩ := withH_some h
      unfold xMkfn at h1
      split at h1
      · injection h1 with h1
        subst h1
        exact ⟨h2, .func (.func f) (first.map ρv) (captured.map ρv), .fn (by simpa using he.evs (by assumption)) (by simpa using he.evs (by assumption)), yes_v (s := Instr.makeFunc (.func f) (first.map ρv) (captured.map ρv)) (fun w => rfl) rfl⟩
      · cases h1
    · simp [isPure] at hp
  case nilCheck x =>
    obtain ⟨h1, h2⟩ := withH_some h
    obtain ⟨a, ha, hf⟩ := x1_some h1
    unfold fNilchk at hf
    split at hf
    · injection hf with hf
      subst hf
      have hr := he _ _ ha
      obtain ⟨b, o, cb, co, rfl, hρ, hv⟩ := hr.ptr_some
      exact ⟨h2, _, .ptr hρ, fun w => by simp only [execOp, hv]; rfl⟩
    · injection hf with hf
      subst hf
      have hr := he _ _ ha
      obtain ⟨a', c', hv, h3, h4⟩ := hr.fn_inv
      exact ⟨h2, _, .fn h3 h4, fun w => by simp only [execOp, hv]; rfl⟩
    · cases hf
  case call c =>
    obtain ⟨callee, args, argTypes⟩ := c
    cases callee with
    | value f => simp [isPure] at hp
    | invoke r m => simp [isPure] at hp
    | builtin b => exact pure_builtin (share := share) he hp h
end
end Go.Proofs.Ytdbehmepikhghaa.AM
