/- What is handed in, opened: slices by their elements, structs by their fields. -/
import Derived.Test.YtdbehmepikhghaaAM31
import Derived.WalkKit
import Derived.ProofKit
import Derived.SizedLaws
set_option linter.unusedVariables false
set_option linter.unusedSimpArgs false
namespace Go.Proofs.Ytdbehmepikhghaa.AM
section
variable {P : Program} {W : World} {A : Type} {enc : TypeId × Value → A}
/-- So much of what is handed in: cells of a type, and what they read as. -/
def Trd (enc : TypeId × Value → A) (P : Program) (W : World) (t : TypeId) (cs : List Value) (d : DataW A) : Prop := ∃ fuel ps, DataW.trod enc P W 0 (fun _ => true) true fuel t cs = some (d, ps)
theorem tr_slice {t e : TypeId} {cs : List Value} {d : DataW A} (ht : P.underlying t = some (.slice e)) (h1 : 0 < P.cellsOf e) (h : Trd enc P W t cs d) :
    ∃ v rows, cs = [v] ∧ CSl W v rows ∧ (∀ (i : Nat) (hi : i < rows.length), rows[i].length = P.cellsOf e ∧ ∃ z, Trd enc P W e rows[i] z ∧ ∀ m ∈ z.weights P e, m ∈ d.weights P t) ∧ ∀ B, (∀ m ∈ d.weights P t, m ≤ B) → rows.length * P.bytesOf e ≤ B := by
  obtain ⟨fuel, ps, h⟩ := h
  rcases DataW.trod_slice ht h with ⟨hcs, _⟩ | ⟨a, len, cap, elems, rest, n, _, hcs, hx, _, hl, _, hlen, hel, _⟩
  · exact ⟨_, [], hcs, .inl ⟨rfl, rfl⟩, fun i hi => by simp at hi, fun B _ => by simp⟩
  · refine ⟨_, (List.range len).map fun i => (W.cells? 0 (a.add (i * P.cellsOf e)) (P.cellsOf e)).getD [], hcs, ?_, ?_, ?_⟩
    · have key : ∀ i, i < len → ∃ cs, W.cells? 0 (a.add (i * P.cellsOf e)) (P.cellsOf e) = some cs ∧ cs.length = P.cellsOf e ∧ ∀ j, j < P.cellsOf e → W.cell? ((a.add (i * P.cellsOf e)).add j) = cs[j]? := fun i hi => by
        have h2 := hel i hi
        rw [List.getElem?_eq_getElem (by omega)] at h2
        cases hq : W.cells? 0 (a.add (i * P.cellsOf e)) (P.cellsOf e) with
        | none => rw [hq] at h2; cases h2
        | some cs =>
          obtain ⟨_, q2, q3⟩ := World.cells?_some hq
          exact ⟨cs, rfl, q2, q3⟩
      by_cases h0 : len = 0
      · subst h0
        exact .inr (.inl ⟨a, cap, rfl, rfl⟩)
      · obtain ⟨cs0, q1, q2, q3⟩ := key 0 (by omega)
        have hc0 := q3 0 h1
        rw [List.getElem?_eq_getElem (by omega), Nat.zero_mul] at hc0
        obtain ⟨cb, co, sp⟩ := a
        have haz : (⟨cb, co, sp⟩ : Addr).add 0 = ⟨cb, co, sp⟩ := by simp [Addr.add]
        rw [haz, haz] at hc0
        unfold World.cell? at hc0
        simp only at hc0
        split at hc0
        · next c el fr hheap =>
          split at hc0
          · cases hc0
          · next hsp =>
            have hsp' : sp = none := by simpa using hsp
            subst hsp'
            have cells : ∀ i, i < len → ∀ j, j < P.cellsOf e → ∀ cs, W.cells? 0 ((⟨cb, co, none⟩ : Addr).add (i * P.cellsOf e)) (P.cellsOf e) = some cs → c[co + (i * P.cellsOf e + j)]? = cs[j]? := fun i hi j hj cs hcs' => by
              obtain ⟨cs', r1, r2, r3⟩ := key i hi
              rw [r1] at hcs'
              cases hcs'
              have := r3 j hj
              rw [add_none, add_none] at this
              unfold World.cell? at this
              simp only [hheap] at this
              rw [← this, Nat.add_assoc]
              simp
            have hrl : ∀ i, i < len → ((W.cells? 0 ((⟨cb, co, none⟩ : Addr).add (i * P.cellsOf e)) (P.cellsOf e)).getD []).length = P.cellsOf e := fun i hi => by
              obtain ⟨cs', r1, r2, r3⟩ := key i hi
              rw [r1]; exact r2
            have hsz : Sized (P.cellsOf e) ((List.range len).map fun i => (W.cells? 0 ((⟨cb, co, none⟩ : Addr).add (i * P.cellsOf e)) (P.cellsOf e)).getD []) := fun r hr => by
              obtain ⟨i, hi, rfl⟩ := List.mem_map.1 hr
              exact hrl i (List.mem_range.1 hi)
            have hfl := hsz.flat
            rw [List.length_map, List.length_range] at hfl
            have at_ : ∀ (j : Nat) (v : Value), ((List.range len).map fun i => (W.cells? 0 ((⟨cb, co, none⟩ : Addr).add (i * P.cellsOf e)) (P.cellsOf e)).getD []).flatten[j]? = some v → c[co + j]? = some v := fun j v hj => by
              have hjl := (List.getElem?_eq_some_iff.1 hj).1
              rw [hfl] at hjl
              have hdiv : j / P.cellsOf e < len := Nat.div_lt_of_lt_mul (by rw [Nat.mul_comm]; exact hjl)
              have hmod : j % P.cellsOf e < P.cellsOf e := Nat.mod_lt _ h1
              have hdm := Nat.div_add_mod j (P.cellsOf e)
              rw [Nat.mul_comm] at hdm
              have hrow := hsz.at (i := j / P.cellsOf e) (by simpa using hdiv)
              have hg : ((List.range len).map fun i => (W.cells? 0 ((⟨cb, co, none⟩ : Addr).add (i * P.cellsOf e)) (P.cellsOf e)).getD [])[j / P.cellsOf e]'(by simpa using hdiv) = (W.cells? 0 ((⟨cb, co, none⟩ : Addr).add (j / P.cellsOf e * P.cellsOf e)) (P.cellsOf e)).getD [] := by simp
              rw [hg] at hrow
              obtain ⟨cs', r1, r2, r3⟩ := key _ hdiv
              rw [r1] at hrow
              have h3 := cells _ hdiv _ hmod _ r1
              rw [hdm] at h3
              rw [h3]
              simp only [Option.getD_some] at hrow
              rw [← hrow, List.getElem?_take, if_pos hmod, List.getElem?_drop, hdm]
              exact hj
            refine .inr (.inr ⟨cb, co, cap, c, el, fr, by simp, by simpa using hl, hheap, ?_, at_⟩)
            rw [hfl]
            have hlast := at_ (len * P.cellsOf e - 1)
            have hpos : 0 < len * P.cellsOf e := Nat.mul_pos (by omega) h1
            have hsome := List.getElem?_eq_getElem (l := ((List.range len).map fun i => (W.cells? 0 ((⟨cb, co, none⟩ : Addr).add (i * P.cellsOf e)) (P.cellsOf e)).getD []).flatten) (i := len * P.cellsOf e - 1) (by rw [hfl]; omega)
            have := (Array.getElem?_eq_some_iff.1 (hlast _ hsome)).1
            omega
        · cases hc0
    · intro i hi
      have hi' : i < len := by simpa using hi
      have h2 := hel i hi'
      rw [List.getElem?_eq_getElem (by omega)] at h2
      cases hq : W.cells? 0 (a.add (i * P.cellsOf e)) (P.cellsOf e) with
      | none => rw [hq] at h2; cases h2
      | some cs =>
        rw [hq] at h2
        obtain ⟨_, q2, _⟩ := World.cells?_some hq
        have hg : ((List.range len).map fun i => (W.cells? 0 (a.add (i * P.cellsOf e)) (P.cellsOf e)).getD [])[i] = cs := by simp [hq]
        rw [hg]
        refine ⟨q2, (elems[i]'(by omega)).1, ⟨n, (elems[i]'(by omega)).2, h2⟩, fun m hm => ?_⟩
        have hd : d = .slice (elems.map (·.1)) (rest.map (·.1)) := congrArg Prod.fst hx
        subst hd
        simp only [DataW.weights, ht]
        refine List.mem_cons_of_mem _ (List.mem_append_left _ ?_)
        have all : ∀ (l : List (DataW A)) (z : DataW A), z ∈ l → ∀ m ∈ z.weights P e, m ∈ DataW.weightsAll P e l := by
          intro l
          induction l with
          | nil => intro z hz; cases hz
          | cons x r ih =>
            intro z hz m hm
            simp only [DataW.weightsAll, List.mem_append]
            rcases List.mem_cons.1 hz with rfl | hz
            · exact .inl hm
            · exact .inr (ih z hz m hm)
        exact all _ _ (List.mem_map.2 ⟨elems[i]'(by omega), List.getElem_mem _, rfl⟩) m hm
    · intro B hB
      have hd : d = .slice (elems.map (·.1)) (rest.map (·.1)) := congrArg Prod.fst hx
      subst hd
      have := hB (((elems.map (·.1)).length + (rest.map (·.1)).length) * P.bytesOf e) (by simp only [DataW.weights, ht]; exact List.mem_cons_self ..)
      rw [List.length_map, List.length_range, ← hlen]
      rw [List.length_map, Nat.add_mul] at this
      omega
theorem tr_struct {t : TypeId} {fs : Array Field} {cs : List Value} {d : DataW A} (ht : P.underlying t = some (.struct fs)) (h : Trd enc P W t cs d) :
    cs.length = P.cellsOf t ∧ ∀ (i : Nat) (f : Field), fs[i]? = some f → ∃ z, Trd enc P W f.type ((cs.drop f.offset).take (P.cellsOf f.type)) z ∧ ∀ m ∈ z.weights P f.type, m ∈ d.weights P t := by
  obtain ⟨fuel, ps, h⟩ := h
  obtain ⟨xs, n, _, hx, hlen, hsz, hf⟩ := DataW.trod_struct ht h
  refine ⟨hlen, fun i f hi => ?_⟩
  have hlt : i < xs.length := by rw [hsz]; exact (Array.getElem?_eq_some_iff.1 hi).1
  have h2 := hf i f hi
  rw [List.getElem?_eq_getElem hlt] at h2
  refine ⟨xs[i].1, ⟨n, xs[i].2, h2⟩, fun m hm => ?_⟩
  have hd : d = .agg (xs.map (·.1)) := congrArg Prod.fst hx
  subst hd
  simp only [DataW.weights, ht]
  have each : ∀ (ts : List TypeId) (l : List (DataW A)) (j : Nat) (u : TypeId) (z : DataW A), ts[j]? = some u → l[j]? = some z → ∀ m ∈ z.weights P u, m ∈ DataW.weightsEach P ts l := fun ts l j u z q1 q2 => DataW.weights_mem_each q1 q2
  refine each _ _ i f.type xs[i].1 ?_ ?_ m hm
  · rw [List.getElem?_map, Array.getElem?_toList, hi]; rfl
  · rw [List.getElem?_map, List.getElem?_eq_getElem hlt]; rfl
theorem tr_int {t : TypeId} {k : IntKind} {cs : List Value} {d : DataW A} (ht : P.underlying t = some (.int k)) (h : Trd enc P W t cs d) : ∃ z, cs = [.int k z] ∧ (Lit.int k z).wf = true := by
  obtain ⟨fuel, ps, h⟩ := h
  cases fuel with
  | zero => simp [DataW.trod] at h
  | succ n =>
    unfold DataW.trod at h
    rw [ht] at h
    split at h <;> simp_all
end
end Go.Proofs.Ytdbehmepikhghaa.AM
