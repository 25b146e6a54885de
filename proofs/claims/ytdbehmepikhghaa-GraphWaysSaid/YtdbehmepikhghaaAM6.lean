/- One operation of the model against one of the abstract machine: those that read and write memory; all but the call. -/
import Derived.Test.YtdbehmepikhghaaAM5
import Derived.Laws.MakeOwn
set_option linter.unusedVariables false
set_option linter.unusedSimpArgs false
namespace Go.Proofs.Ytdbehmepikhghaa.AM
section
variable {P : Program} {X : Nat → Option Obj} {w0 w : World} {ρv : Operand → Value} {o : Oper} {ρ : Rho} {h : Nat → Blk} {V : Type → Type} [Vec V] {ev : Operand → Option Value} {H H' : AH V} {v : Value}
  {call : Value → List Value → AH V → Option (Value × AH V)} {share : Bool}

def view (H : AH V) : Nat → Blk := fun b => (Vec.get H b).getD .dead
theorem view_some {b : Nat} {B : Blk} (hb : Vec.get H b = some B) : view H b = B := by simp [view, hb]
theorem view_set {b : Nat} {B B0 : Blk} (hb : Vec.get H b = some B0) : view (Vec.set H b B) = setB (view H) b B := by
  funext i
  have hlt := Vec.get_lt H b B0 hb
  unfold view setB
  rw [Vec.get_set]
  by_cases e : b = i
  · subst e; rw [if_pos ⟨rfl, hlt⟩, if_pos rfl]; rfl
  · rw [if_neg (fun x => e x.1), if_neg (Ne.symm e)]
theorem view_push (B : Blk) : view (Vec.push H B) = setB (view H) (Vec.size H) B := by
  funext i
  unfold view setB
  rw [Vec.get_push]
  by_cases e : i = Vec.size H
  · rw [if_pos e, if_pos e]; rfl
  · rw [if_neg e, if_neg e]

/-! ### Reading -/
theorem arow_some {b : Nat} {cs : List Value} (hb : arow H b = some cs) : ∃ w lo, Vec.get H b = some (.arr cs w lo) := by
  unfold arow at hb
  split at hb
  · injection hb with hb; subst hb; exact ⟨_, _, ‹_›⟩
  · cases hb
theorem loadVar_plain {t : TypeId} {a : Addr} {u : Value} (hagg : ∀ w, (isAgg t).run P w = .ok false w) (hc : w.cell? a = some u) : (loadVar t a).run P w = .ok u w := by
  simp only [loadVar, Sem.run_bind, hagg w, Result.andThen_ok, Bool.false_eq_true, if_false, run_load, hc]
/-- Where the view tells the block that is asked. -/
theorem load_sound (s : St P X w0 ρ h w) {t : TypeId} {n : Option Nat} (hn : isAggT P t = some n) {p p' : Value} (hp : VRel ρ p p') (hv : ∀ b B, ρ b ≠ none → Vec.get H b = some B → h b = B) (hl : aload H n p = some v) :
    ∃ v', VRel ρ v v' ∧ (Instr.loadAt t p').run P w = .ok v' w := by
  unfold aload at hl
  split at hl
  case h_2 => cases hl
  rename_i b off
  split at hl
  case h_2 => cases hl
  rename_i cs hr
  obtain ⟨wr, lo, hb⟩ := arow_some hr
  obtain ⟨b1, o, cb, co, he, hρ, rfl⟩ := hp.ptr_some
  cases he
  have hh := hv b _ (by rw [hρ]; simp) hb
  cases n with
  | none =>
    obtain ⟨d, i, hd, hi, hagg⟩ := isAggT_none hn
    obtain ⟨v', hc, r⟩ := s.cell hh hρ (show cs[off]? = some v from hl)
    exact ⟨v', r, by simp only [Instr.loadAt, Instr.sureAddr, Sem.run_bind, Sem.run_pure, Result.andThen_ok, loadVar_plain hagg hc]⟩
  | some n =>
    obtain ⟨d, i, hd, hrow, hi, hsz, hagg⟩ := isAggT_some hn
    simp only [acells] at hl
    split at hl
    · rename_i hle
      injection hl with hl
      subst hl
      obtain ⟨cs', hr', hlen, hra⟩ := s.range hh hρ hle
      exact ⟨_, .agg (by simpa using hr'), run_loadAt_mid w cb (co + off) t cs' d hra hd hrow (by rw [hi]; simp [hlen, hsz])⟩
    · cases hl

/-! ### New blocks -/
/-- A new block is made, whatever the world: cs: its abstract cells; c: its cells; f: what is told, by its number. -/
structure Makes (P : Program) (ρv : Operand → Value) (o : Oper) (ρ : Rho) (cs : List Value) (n : Nat) (v : Value) (f : Nat → Value) (c : Array Value) (e : TypeId) : Prop where
  run : ∀ w, (execOp ρv o).run P w = .ok (.value (f w.heap.size)) (w.alloc (.cells c e))
  le : cs.length ≤ c.size
  rel : VRels ρ cs (c.toList.take cs.length)
  val : ∀ (ρ' : Rho) (cb : Nat), ρ.le ρ' → ρ' n = some (cb, 0) → VRel ρ' v (f cb)
def isNew {χ : Type} : AOp χ → Bool
  | .alloc .. | .box .. | .mkarr .. | .mkslice .. => true
  | _ => false

theorem repl_get : ∀ (n : Nat) (cs : List Value) (i : Nat), i < n * cs.length → ((List.replicate n cs).flatten)[i]? = cs[i % cs.length]?
  | 0, cs, i, h => by omega
  | n + 1, cs, i, h => by
    rw [List.replicate_succ, List.flatten_cons]
    by_cases hi : i < cs.length
    · rw [List.getElem?_append_left hi, Nat.mod_eq_of_lt hi]
    · rw [Nat.succ_mul] at h
      rw [List.getElem?_append_right (by omega), repl_get n cs _ (by omega), ← Nat.mod_eq_sub_mod (by omega)]
theorem made_list (z : Array Value) (n size : Nat) (hz : z.size = size) : ((Array.range (n * size)).map (z[· % z.size]!)).toList = (List.replicate n z.toList).flatten := by
  apply List.ext_getElem?
  intro i
  have hl : ((List.replicate n z.toList).flatten).length = n * size := by simp [hz]
  by_cases hi : i < n * size
  · rw [repl_get n z.toList i (by simpa [hz] using hi)]
    have hp : 0 < z.size := by
      rcases Nat.eq_zero_or_pos z.size with h0 | h0
      · rw [← hz, h0] at hi; omega
      · exact h0
    have hm : i % z.size < z.size := Nat.mod_lt _ hp
    simp [hi, hm]
  · rw [List.getElem?_eq_none (by simp; omega), List.getElem?_eq_none (by rw [hl]; omega)]

theorem anew_eq (H : AH V) (cs : List Value) : anew H cs = Vec.push H (.arr cs true 0) := rfl
theorem new_sound (he : ERel ρ ev ρv) (hp : isNew (compileOp P share o) = true) (hx : aexec P call (compileOp P share o) ev H = some (v, H')) :
    ∃ cs f c e, H' = anew H cs ∧ Makes P ρv o ρ cs (Vec.size H) v f c e := by
  obtain ⟨dst, op, type, pos, after, guard⟩ := o
  cases op <;> simp only [compileOp] at hp hx <;> (try (simp [isNew] at hp; done)) <;> (try (exfalso; revert hp; (repeat' split) <;> simp [isNew]; done))
  case alloc t =>
    split at hp
    · rename_i cs hz
      rw [hz] at hx
      simp only at hx
      split at hp
      · rename_i hf
        rw [if_pos hf] at hx
        simp only [aexec, newPtr, Option.some.injEq, Prod.mk.injEq] at hx
        obtain ⟨rfl, rfl⟩ := hx
        obtain ⟨i, z, hi, hz0, hzc⟩ := zeroT_some hz
        refine ⟨cs, fun n => .pointer (some ⟨n, 0, none⟩), z.cells, t, rfl, fun w => ?_, by rw [← hzc]; simp, ?_, fun ρ' cb hle hr => .ptr (co := 0) hr⟩
        · simp [execOp, Instr.alloc, run_zeroValue hi hz0, newVar, newRow]
        · have : z.cells.toList.take cs.length = cs := by rw [← hzc, List.take_length]
          rw [this]
          exact VRels.flat fun u hu => flat_of_flat1 (List.all_eq_true.1 hf u hu)
      · simp [isNew] at hp
    · simp [isNew] at hp
  case box e x =>
    simp only [aexec] at hx
    obtain ⟨a, ha, hf⟩ := x1_some hx
    unfold fBox at hf
    split at hf
    · simp only [newPtr, Option.some.injEq, Prod.mk.injEq] at hf
      obtain ⟨rfl, rfl⟩ := hf
      have hr := (he _ _ ha).cells
      have hl := hr.length
      refine ⟨_, fun n => .pointer (some ⟨n, 0, none⟩), (ρv x).cells, e, rfl, fun w => ?_, by rw [hl]; simp, ?_, fun ρ' cb hle hr => .ptr (co := 0) hr⟩
      · simp [execOp, Instr.box, newVar, newRow]
      · rw [hl, List.take_length]; exact hr
    · cases hf
  case buildSlice t n ps =>
    split at hp
    · rename_i e hu
      rw [hu] at hx
      simp only at hx
      split at hp
      · rename_i i cs hi hz
        rw [hi, hz] at hx
        simp only at hx
        split at hp
        · rename_i hc
          rw [if_pos hc] at hx
          simp only [Bool.and_eq_true, decide_eq_true_eq] at hc
          obtain ⟨⟨⟨hc1, hc2⟩, hc3⟩, hc4⟩ := hc
          simp only [aexec, xMkarr] at hx
          split at hx
          · rename_i l hl
            split at hx
            · rename_i c hcf
              split at hx
              · simp only [Option.some.injEq, Prod.mk.injEq] at hx
                obtain ⟨rfl, rfl⟩ := hx
                obtain ⟨i', z, hi', hz0, hzc⟩ := zeroT_some hz
                rw [hi] at hi'; cases hi'
                have hzs : z.cells.size = i.size := by rw [← hc3, ← hzc]; simp
                have hml := made_list z.cells n i.size hzs
                have hcs : VRels ρ ((List.replicate n cs).flatten) ((Array.range (n * i.size)).map (z.cells[· % z.cells.size]!)).toList := by
                  rw [hml, hzc]
                  refine VRels.flat fun u hu => flat_of_flat1 (List.all_eq_true.1 hc1 u ?_)
                  simp only [List.mem_flatten, List.mem_replicate] at hu
                  obtain ⟨l, ⟨_, rfl⟩, hu⟩ := hu
                  exact hu
                obtain ⟨c', hf, hr⟩ := fill_rel (xParts_parts he (fun j => some (j * i.size, i.size)) (fun p => (p.1 * i.size, i.size)) (ps := ps.toList) (fun p _ => rfl) hl) hcs hcf
                have hlen : c.length = c'.size := hr.length.trans Array.length_toList
                refine ⟨c, fun b => .slice (some ⟨b, 0, none⟩) n n, c', e, rfl, fun w => ?_, Nat.le_of_eq hlen, ?_, fun ρ' cb hle hr => .sl (co := 0) hr (Nat.le_refl _) (by omega) (fun _ => rfl) (by intro hq; cases hq)⟩
                · have hnb : ¬ (n * i.size > 16777216) := by simpa using hc2
                  by_cases h0 : n * i.size = 0
                  · have hf0 : Instr.fill (fun j => some (j * i.size, i.size)) #[] (ps.toList.map fun p => (p.1, ρv p.2)) = some c' := by
                      have : ((Array.range (n * i.size)).map (z.cells[· % z.cells.size]!)) = #[] := by rw [h0]; simp
                      rw [← this]; exact hf
                    simp [execOp, Instr.buildSlice, run_underlying hu, sizeOf, typeInfo, hi, hnb, h0, hf0, newRow, Array.range_zero']
                  · simp [execOp, Instr.buildSlice, run_underlying hu, sizeOf, typeInfo, hi, hnb, h0, zeroValue, hz0, hf, newRow]
                · rw [hr.length, List.take_length]; exact hr
              · cases hx
            · cases hx
          · cases hx
        · simp [isNew] at hp
      · simp [isNew] at hp
    · simp [isNew] at hp
  case makeSlice t l c =>
    split at hp
    · rename_i e hu
      rw [hu] at hx
      simp only at hx
      split at hp
      · rename_i i cs hi hz
        rw [hi, hz] at hx
        simp only at hx
        split at hp
        · rename_i hc
          rw [if_pos hc] at hx
          simp only [Bool.and_eq_true, decide_eq_true_eq] at hc
          obtain ⟨⟨hc1, hc2⟩, hc3⟩ := hc
          simp only [aexec] at hx
          obtain ⟨a, b, ha, hb, hf⟩ := x2_some hx
          unfold amkslice at hf
          split at hf
          · rename_i k1 l1 k2 c1
            split at hf
            · rename_i hcond
              simp only [Option.some.injEq, Prod.mk.injEq] at hf
              obtain ⟨rfl, rfl⟩ := hf
              obtain ⟨i', z, hi', hz0, hzc⟩ := zeroT_some hz
              rw [hi] at hi'; cases hi'
              have hzs : z.cells.size = i.size := by rw [← hc2, ← hzc]; simp
              have hml := made_list z.cells c1.toNat i.size hzs
              have ea := (he _ _ ha).int
              have eb := (he _ _ hb).int
              have hl : (madeCells z.cells (c1.toNat * i.size)).toList = (List.replicate c1.toNat cs).flatten := by rw [← hzc]; exact hml
              have hsz : ((List.replicate c1.toNat cs).flatten).length = (madeCells z.cells (c1.toNat * i.size)).size := by rw [← hl, Array.length_toList]
              refine ⟨_, fun b => .slice (some ⟨b, 0, none⟩) l1.toNat c1.toNat, madeCells z.cells (c1.toNat * i.size), e, rfl, fun w => ?_, Nat.le_of_eq hsz, ?_, fun ρ' cb hle hr => .sl (co := 0) hr (Nat.le_refl _) (by omega) (fun _ => rfl) (by intro hq; cases hq)⟩
              · have := run_make (P := P) w t e i z hu hi hz0 k1 k2 l1 c1 hcond.1 hcond.2.1 (by rw [Int.mul_comm]; exact hcond.2.2.1) hcond.2.2.2
                simp only [execOp, ea, eb, Sem.run_bind, this, Result.andThen_ok, Sem.run_pure]
              · rw [hsz, ← Array.length_toList, List.take_length, hl]
                refine VRels.flat fun u hu => flat_of_flat1 (List.all_eq_true.1 hc1 u ?_)
                simp only [List.mem_flatten, List.mem_replicate] at hu
                obtain ⟨l, ⟨_, rfl⟩, hu⟩ := hu
                exact hu
            · cases hf
          · cases hf
        · simp [isNew] at hp
      · simp [isNew] at hp
    · simp [isNew] at hp

/-! ### What changes memory -/
structure Now (P : Program) (X : Nat → Option Obj) (w0 : World) (ρ : Rho) (H : AH V) (w : World) : Prop where
  st : St P X w0 ρ (view H) w
  dom : ∀ b p, ρ b = some p → b < Vec.size H
theorem Now.fresh (s : Now P X w0 ρ H w) : ρ (Vec.size H) = none := by
  cases hq : ρ (Vec.size H) with
  | none => rfl
  | some p => have := s.dom _ _ hq; omega

/-- What a step did. -/
structure Did (P : Program) (X : Nat → Option Obj) (w0 : World) (ρ : Rho) (H H' : AH V) (w : World) (v : Value) (ρ' : Rho) (v' : Value) (w' : World) : Prop where
  le : ρ.le ρ'
  now : Now P X w0 ρ' H' w'
  val : VRel ρ' v v'
  size : Vec.size H ≤ Vec.size H'
  heap : w.heap.size ≤ w'.heap.size
  names : ∀ b p, ρ' b = some p → ρ b = some p ∨ X p.1 = none
theorem names_same {X : Nat → Option Obj} {ρ : Rho} : ∀ b p, ρ b = some p → ρ b = some p ∨ X p.1 = none := fun _ _ h => .inl h
theorem names_upd {X : Nat → Option Obj} {ρ : Rho} {i : Nat} {q : Nat × Nat} {l : Option (Nat × Nat)} (hX : X q.1 = none) : ∀ b p, ρ.upd i q l b = some p → ρ b = some p ∨ X p.1 = none := fun b p hb => by
  by_cases e : b = i
  · subst e; rw [Rho.upd_same] at hb; cases hb; exact .inr hX
  · rw [Rho.upd_ne ρ _ _ e] at hb; exact .inl hb

theorem St.there (s : St P X w0 ρ h w) {b cb co : Nat} {cs : List Value} {lo : Nat} (hb : h b = .arr cs true lo) (hρ : ρ b = some (cb, co)) {c : Array Value} {e : TypeId} {fr : Nat × Nat} (hh : w.heap[cb]? = some (.cells c e fr)) {j : Nat} (hj : j < c.size) :
    (w.cell? ⟨cb, j, none⟩).isSome = true ∧ w.frozen? ⟨cb, j, none⟩ = false := by
  have := s.blk b _ hρ
  rw [hb] at this
  obtain ⟨c', e', fr', h1, h2, h3, h4⟩ := this
  simp only at h1
  rw [hh] at h1
  cases h1
  refine ⟨by simp [World.cell?, hh, hj], ?_⟩
  have := (h4 rfl).2 j hj
  simp only [World.frozen?, hh]
  rw [← Bool.not_eq_true]
  simpa using this
theorem St.arr (s : St P X w0 ρ h w) {b cb co : Nat} {cs : List Value} {wr : Bool} {lo : Nat} (hb : h b = .arr cs wr lo) (hρ : ρ b = some (cb, co)) : ∃ c e fr, w.heap[cb]? = some (.cells c e fr) ∧ co + cs.length ≤ c.size := by
  have := s.blk b _ hρ
  rw [hb] at this
  obtain ⟨c', e', fr', h1, h2, h3, h4⟩ := this
  exact ⟨c', e', fr', h1, h2⟩
theorem aput_some {b off : Nat} {vs : List Value} (hp : aput' H b off vs = some H') : ∃ cs lo, Vec.get H b = some (.arr cs true lo) ∧ lo ≤ off ∧ off + vs.length ≤ cs.length ∧ vs.all oneCell = true ∧ H' = Vec.set H b (.arr (splice cs off vs) true lo) := by
  unfold aput' at hp
  split at hp
  · split at hp
    · rename_i hc
      injection hp with hp
      exact ⟨_, _, ‹_›, hc.1, hc.2.1, hc.2.2, hp.symm⟩
    · cases hp
  · cases hp
theorem ones {l l' : List Value} (hr : VRels ρ l l') (ho : l.all oneCell = true) : ∀ u ∈ l', u.oneCell' = true := by
  intro u hu
  obtain ⟨i, hi⟩ := List.mem_iff_getElem?.1 hu
  have hl := hr.length
  have hlt : i < l.length := by rw [hl]; exact (List.getElem?_eq_some_iff.1 hi).1
  obtain ⟨u', h1, h2⟩ := hr.get (List.getElem?_eq_getElem hlt)
  rw [hi] at h1
  cases h1
  rw [← oneCell_eq, h2.oneCell]
  exact List.all_eq_true.1 ho _ (List.getElem_mem hlt)
theorem put_sound (s : Now P X w0 ρ H w) {b cb co off : Nat} {vs vs' : List Value} (hρ : ρ b = some (cb, co)) (hr : VRels ρ vs vs') (hp : aput' H b off vs = some H') :
    (∀ j, j < vs'.length → (w.cell? ⟨cb, co + off + j, none⟩).isSome = true) ∧ (∀ j, j < vs'.length → w.frozen? ⟨cb, co + off + j, none⟩ = false) ∧ (∀ u ∈ vs', u.oneCell' = true) ∧
    (storeCells ⟨cb, co + off, none⟩ vs').run P w = .ok () (w.setCells cb (co + off) vs') ∧ Now P X w0 ρ H' (w.setCells cb (co + off) vs') ∧ Vec.size H' = Vec.size H ∧ (w.setCells cb (co + off) vs').heap.size = w.heap.size := by
  obtain ⟨cs, lo, hb, hlo, hle, hone, rfl⟩ := aput_some hp
  have hv := view_some hb
  have hl := hr.length
  obtain ⟨c, e, fr, hh, hsz⟩ := s.st.arr hv hρ
  have ht := fun j (hj : j < vs'.length) => s.st.there hv hρ hh (j := co + off + j) (by omega)
  have h1 := ones hr hone
  refine ⟨fun j hj => (ht j hj).1, fun j hj => (ht j hj).2, h1, ?_, ⟨?_, fun i p hi => ?_⟩, Vec.size_set _ _ _, (setCells_rest cb vs' _ w).2.2.2⟩
  · have := run_storeCells_cells (P := P) cb (co + off) vs' 0 w (fun j hj => by simpa using (ht j hj).1) (fun j hj => by simpa using (ht j hj).2) h1
    simpa using this
  · rw [view_set hb]
    exact s.st.write hv hρ hlo hle hr
  · rw [Vec.size_set]; exact s.dom i p hi

theorem store_sound (s : Now P X w0 ρ H w) {t : TypeId} {i : TypeInfo} (hi : P.info? t = some i) {p p' x x' : Value} (hp : VRel ρ p p') (hx : VRel ρ x x') (ha : astore H i.size p x = some H') :
    ∃ w', (Instr.storeAt t p' x').run P w = .ok () w' ∧ Now P X w0 ρ H' w' ∧ Vec.size H' = Vec.size H ∧ w'.heap.size = w.heap.size := by
  unfold astore at ha
  split at ha
  · rename_i b off
    split at ha
    · rename_i hl
      obtain ⟨b', o', cb, co, hq, hρ, rfl⟩ := hp.ptr_some
      cases hq
      obtain ⟨_, _, _, h4, h5, h6, h7⟩ := put_sound s hρ hx.cells ha
      have hlen := hx.cells.length
      refine ⟨_, ?_, h5, h6, h7⟩
      have hsz : x'.cells.size = i.size := by rw [← Array.length_toList, ← hlen]; exact hl
      simp only [Instr.storeAt, Instr.sureAddr, Sem.run_bind, Sem.run_pure, Result.andThen_ok, storeVar, sizeOf, typeInfo, program, Sem.run, hi, hsz, ne_eq, not_true_eq_false, if_false, h4]
    · cases ha
  · cases ha

theorem asrc_sound (s : Now P X w0 ρ H w) {size k m : Nat} {x x' : Value} {new : List Value} (hx : VRel ρ x x') (hm : alen x = some m) (hk : k ≤ m) (ha : asrc H size k x = some new) :
    ∃ news, VRels ρ new news ∧ news.length = k * size ∧ (∀ w' : World, w'.heap = w.heap → (Builtin.firstCells size k x').run P w' = .ok news.toArray w') ∧ (∀ w' : World, (Builtin.lenOf x').run P w' = .ok m w') := by
  unfold asrc at ha
  split at ha
  · rename_i b off n ce
    simp only [alen, Option.some.injEq] at hm
    subst hm
    split at ha
    · rename_i cs hrow
      obtain ⟨wr, lo, hb⟩ := arow_some hrow
      split at ha
      · rename_i hle
        injection ha with ha
        subst ha
        obtain ⟨b', o', cb, co, hq, hρ, hv⟩ := hx.sl_some rfl
        cases hq
        rcases hv with ⟨c', rfl, _, _, _⟩ | ⟨rfl, _, o2, c', rfl, _⟩
        · obtain ⟨cs', hr, hl, hra⟩ := s.st.range (view_some hb) hρ hle
          refine ⟨cs', hr, hl, fun w' hw' => ?_, fun w' => rfl⟩
          refine run_firstCells_some w' size k _ n c' cs' hl fun j u hj => ?_
          rw [add_mk]
          have := hra j u hj
          simpa [World.cell?, hw'] using this
        · have : k = 0 := by omega
          subst this
          refine ⟨[], by simp only [Nat.zero_mul, List.take_zero]; exact .nil, by simp, fun w' hw' => ?_, fun w' => rfl⟩
          exact run_firstCells_some w' size 0 _ 0 c' [] (by simp) (by simp)
      · cases ha
    · cases ha
  · rename_i b off sp n ce
    simp only [alen, Option.some.injEq] at hm
    subst hm
    split at ha
    · rename_i hk0
      injection ha with ha
      subst ha
      subst hk0
      rcases hx.sl_any with hsp | ⟨rfl, _, a', c', rfl, _⟩
      · cases hsp
      · exact ⟨[], .nil, by simp, fun w' _ => run_firstCells_some w' size 0 _ 0 c' [] (by simp) (by simp), fun w' => rfl⟩
    · cases ha
  · rename_i n ce
    simp only [alen, Option.some.injEq] at hm
    subst hm
    split at ha
    · rename_i hk0
      injection ha with ha
      subst ha
      subst hk0
      obtain ⟨rfl, rfl, rfl⟩ := hx.sl_none
      exact ⟨[], .nil, by simp, fun w' _ => run_firstCells_none w' size 0 0 0, fun w' => rfl⟩
    · cases ha
  · rename_i str
    simp only [alen, Option.some.injEq] at hm
    subst hm
    split at ha
    · rename_i h1
      subst h1
      injection ha with ha
      subst ha
      rw [hx.string]
      refine ⟨_, VRels.flat fun u hu => ?_, ?_, fun w' _ => ?_, fun w' => rfl⟩
      · obtain ⟨_, _, rfl⟩ := List.mem_map.1 hu; rfl
      · have := bytes_length str
        simp only [bytesOf] at this
        simp only [List.length_map, List.length_take]
        omega
      · simp only [Builtin.firstCells, Sem.run_pure]
        congr 1
        apply Array.ext'
        simp [List.extract_eq_take_drop]
    · cases ha
  · cases ha
end
end Go.Proofs.Ytdbehmepikhghaa.AM
