/- slices.Insert into a queue. PUT TOGETHER by mk.py. -/
import Derived.Test.YtollibkfagjnaaaAMb
import Derived.Shelf.Spec.SlicesInsertGrow
set_option linter.unusedVariables false
set_option linter.unusedSimpArgs false
/- slices.Insert of one number into a queue: what the library's contract says, as an operation of the abstract machine. -/
namespace Go.Proofs.Ytollibkfagjnaaa.AM
section
variable {P : Program} {X : Nat → Option Obj} {w0 w : World} {ρ : Rho} {h : Nat → Blk} {V : Type → Type} [Vec V] {H H' : AH V}
/-- A block is dead, and what lies behind its begin is told anew under another name. -/
theorem St.recell (s : St P X w0 ρ h w) {b id cb co sz o : Nat} {cs : List Value} (hb : h b = .arr cs true 0) (hp : ρ b = some (cb, co)) (hid : ρ id = none) (hlim : ρ.lim b = some (cs.length, sz)) {w' : World} (q1 : w'.os = w.os) (q2 : w'.tape = w.tape) (q3 : w'.output = w.output) (q4 : w'.heap.size = w.heap.size)
    (hoth : ∀ k, k ≠ cb → w'.heap[k]? = w.heap[k]?) {c c2 : Array Value} {e : TypeId} {fr : Nat × Nat} (hc : w.heap[cb]? = some (.cells c e fr)) (hc2 : w'.heap[cb]? = some (.cells c2 e fr)) (hcs : c2.size = c.size) (hpre : ∀ i, i < co → c2[i]? = c[i]?)
    {new : List Value} (hnew : ∀ i v, new[i]? = some v → ∃ v', c2[co + o + i]? = some v' ∧ VRel ρ v v') (hsz : co + o + new.length ≤ sz) : St P X w0 (ρ.upd id (cb, co + o) (some (new.length, sz))) (setB (setB h b .dead) id (.arr new true 0)) w' := by
  have hne : id ≠ b := fun e => by subst e; rw [hid] at hp; cases hp
  have hblk := s.blk b _ hp
  rw [hb] at hblk
  obtain ⟨c', e', fr', h1, h2, h3, h4⟩ := hblk
  simp only at h1 h2 h3 h4
  rw [hc] at h1
  cases h1
  obtain ⟨sz', c', e', fr', hl1, hl2, hl3⟩ := s.lim b _ cs 0 hp hb
  rw [hlim] at hl1
  cases hl1
  rw [hc] at hl2
  cases hl2
  have hle := Rho.le_upd (cb, co + o) (some (new.length, sz)) hid
  refine ⟨q1.trans s.os, q2.trans s.tape, q3.trans s.output, by rw [q4]; exact s.size, fun k ob hk => ?_, fun i p hi => ?_, fun i p hi => ?_, fun i j p q hij hi hj hq => ?_, fun i p csi loi hi hbi => ?_⟩
  · rw [hoth k (fun e => by subst e; rw [(h4 trivial).1] at hk; cases hk)]; exact s.frame k ob hk
  · rw [q4]
    by_cases ei : i = id
    · subst ei; rw [Rho.upd_same] at hi; cases hi; have := s.dom b _ hp; exact this
    · rw [Rho.upd_ne ρ _ _ ei] at hi; exact s.dom i p hi
  · by_cases ei : i = id
    · subst ei
      rw [Rho.upd_same] at hi
      cases hi
      rw [setB_same]
      exact ⟨_, e, fr, hc2, by rw [hcs]; simp only; omega, fun j u hu => let ⟨u', a, r⟩ := hnew j u hu; ⟨u', a, r.mono hle⟩, fun _ => ⟨(h4 trivial).1, (h4 trivial).2⟩⟩
    · rw [Rho.upd_ne ρ _ _ ei] at hi
      rw [setB_ne _ _ ei]
      by_cases eb : i = b
      · subst eb; rw [setB_same]; trivial
      · rw [setB_ne _ _ eb]
        by_cases e2 : p.1 = cb
        · rcases s.sharers hb hp eb hi e2 with hd | ⟨cs', lo1, hd, hle1⟩
          · rw [hd]; trivial
          · rw [hd]
            have := s.blk i p hi
            rw [hd] at this
            obtain ⟨c3, e3, fr3, g1, g2, g3, _⟩ := this
            rw [e2, hc] at g1
            cases g1
            refine ⟨_, e, fr, by rw [e2]; exact hc2, by rw [hcs]; exact g2, fun j u hu => ?_, fun hf => by cases hf⟩
            obtain ⟨u', a, r⟩ := g3 j u hu
            have hj : j < cs'.length := (List.getElem?_eq_some_iff.1 hu).1
            exact ⟨u', by rw [hpre _ (by omega)]; exact a, r.mono hle⟩
        · exact ((s.blk i p hi).heap p (hoth _ e2)).mono hle
  · have hshare : ∀ k pk, k ≠ id → (ρ.upd id (cb, co + o) (some (new.length, sz))) k = some pk → pk.1 = cb →
        (setB (setB h b .dead) id (.arr new true 0)) k = .dead ∨ ∃ cs' lo1, (setB (setB h b .dead) id (.arr new true 0)) k = .arr cs' false lo1 ∧ pk.2 + cs'.length ≤ co + o + 0 := by
      intro k pk hk hpk hcb
      rw [Rho.upd_ne ρ _ _ hk] at hpk
      rw [setB_ne _ _ hk]
      by_cases eb : k = b
      · subst eb; rw [setB_same]; exact .inl rfl
      · rw [setB_ne _ _ eb]
        rcases s.sharers hb hp eb hpk hcb with hd | ⟨cs', lo1, hd, hle1⟩
        · exact .inl hd
        · exact .inr ⟨cs', lo1, hd, by omega⟩
    by_cases ei : i = id
    · subst ei
      rw [Rho.upd_same] at hi
      cases hi
      rw [setB_same]
      exact (sepOk_new (hshare j q (Ne.symm hij) hj hq.symm)).1
    · by_cases ej : j = id
      · subst ej
        rw [Rho.upd_same] at hj
        cases hj
        rw [setB_same]
        exact (sepOk_new (hshare i p ei hi hq)).2
      · rw [Rho.upd_ne ρ _ _ ei] at hi
        rw [Rho.upd_ne ρ _ _ ej] at hj
        rw [setB_ne _ _ ei, setB_ne _ _ ej]
        have hw : ∀ k, weak (setB h b .dead k) (h k) := fun k => by
          by_cases ek : k = b
          · subst ek; rw [setB_same]; exact .inr (.inl rfl)
          · rw [setB_ne _ _ ek]; exact weak_refl _
        exact sepOk_weak (hw i) (hw j) (s.sep i j p q hij hi hj hq) (s.sep j i q p (Ne.symm hij) hj hi hq.symm)
  · by_cases ei : i = id
    · subst ei
      rw [Rho.upd_same] at hi
      cases hi
      rw [setB_same] at hbi
      cases hbi
      exact ⟨sz, _, e, fr, by rw [Rho.lim_same], hc2, by rw [hcs]; exact hl3⟩
    · rw [Rho.upd_ne ρ _ _ ei] at hi
      rw [setB_ne _ _ ei] at hbi
      rw [Rho.lim_ne ρ _ _ ei]
      by_cases eb : i = b
      · subst eb
        rw [setB_same] at hbi
        cases hbi
      · rw [setB_ne _ _ eb] at hbi
        by_cases e2 : p.1 = cb
        · rcases s.sharers hb hp eb hi e2 with hd | ⟨cs', lo1, hd, hle1⟩
          · rw [hd] at hbi; cases hbi
          · rw [hd] at hbi; cases hbi
        · obtain ⟨sz2, c2, e2', fr2, g1, g2, g3⟩ := s.lim i p csi loi hi hbi
          exact ⟨sz2, c2, e2', fr2, g1, by rw [hoth _ e2]; exact g2, g3⟩
/-- Cells written in a block that is new. -/
theorem setCells_alloc (e : TypeId) : ∀ (vs : List Value) (i : Nat) (w : World) (c : Array Value), (w.alloc (.cells c e)).setCells w.heap.size i vs = w.alloc (.cells (csplice c i vs) e)
  | [], _, _, _ => rfl
  | v :: r, i, w, c => by
    rw [World.setCells, csplice]
    have : (w.alloc (.cells c e)).setCell ⟨w.heap.size, i, none⟩ v = w.alloc (.cells (c.setIfInBounds i v) e) := by
      simp only [World.setCell, World.alloc]
      congr 1
      apply Array.ext_getElem?
      intro k
      rw [Array.getElem?_modify, Array.getElem?_push, Array.getElem?_push]
      by_cases hk : k = w.heap.size
      · subst hk; simp
      · rw [if_neg (Ne.symm hk), if_neg hk, if_neg hk]
    rw [this, setCells_alloc e r (i + 1) w _]
/-- The one element that is handed in, and where it lies. -/
def ainsE (H : AH V) (x : Value) : Option (Nat × Value) :=
  match x with
  | .slice (some ⟨vb, vo, none⟩) 1 _ => (match Vec.get H vb with
    | some (.arr vcs true _) => (match vcs[vo]? with | some v => some (vb, v) | none => none)
    | _ => none)
  | _ => none
/-- What slices.Insert of one element comes to: the queue goes on under a new name. -/
def ains (f g : FuncId) (args : List Value) (H : AH V) : Option (Value × AH V) :=
  if g = f then (match args with
    | [s, .int .i64 k, x] => (match ainsE H x with
      | some (vb, v) => if oneCell v = true ∧ 0 ≤ k then (match s with
        | .slice (some ⟨b, o, none⟩) 0 1 => if k = 0 then some (.iface 0 (.slice (some ⟨Vec.size H, 0, none⟩) 1 0), anew H [v]) else none
        | .slice none 0 0 => if k = 0 then some (.iface 0 (.slice (some ⟨Vec.size H, 0, none⟩) 1 0), anew H [v]) else none
        | .iface 0 (.slice (some ⟨b, o, none⟩) n 0) => (match Vec.get H b with
          | some (.arr cs true 0) => if (cs.length = o + n ∧ k ≤ n) ∧ ((n + 1) * 8 ≤ room ∧ vb ≠ b) ∧ (cs.drop o).all oneCell = true then some (.iface 0 (.slice (some ⟨Vec.size H, 0, none⟩) (n + 1) 0), anew (Vec.set H b .dead) ((cs.drop o).take k.toNat ++ v :: (cs.drop (o + k.toNat)))) else none
          | _ => none)
        | _ => none) else none
      | none => none)
    | _ => none)
  else none
theorem ainsE_ok (s : Now P X w0 ρ H w) {x x' v : Value} {vb : Nat} (hx : VRel ρ x x') (h : ainsE H x = some (vb, v)) : ∃ cvb cvo co0 vc v' c e fr vcs lo, ρ vb = some (cvb, co0) ∧ view H vb = .arr vcs true lo ∧ x' = .slice (some ⟨cvb, cvo, none⟩) 1 vc ∧ VRel ρ v v' ∧ w.heap[cvb]? = some (.cells c e fr) ∧ c[cvo]? = some v' ∧ (∀ o, ¬ (fr.1 ≤ o ∧ o < fr.2)) ∧ X cvb = none := by
  unfold ainsE at h
  split at h
  · rename_i vb' vo ce
    split at h
    · rename_i vcs lo hg
      split at h
      · rename_i v0 hv
        simp only [Option.some.injEq, Prod.mk.injEq] at h
        obtain ⟨rfl, rfl⟩ := h
        obtain ⟨b, o, cb, co, hq, hρ, hr⟩ := hx.sl_some rfl
        cases hq
        rcases hr with ⟨c', rfl, _⟩ | ⟨h0, _⟩
        · have hvb := view_some hg
          have hb := s.st.blk _ _ hρ
          rw [hvb] at hb
          obtain ⟨c, e, fr, g1, g2, g3, g4⟩ := hb
          obtain ⟨v', a, r⟩ := g3 _ _ hv
          exact ⟨cb, co + vo, co, c', v', c, e, fr, vcs, lo, hρ, hvb, rfl, r, g1, a, (g4 rfl).2, (g4 rfl).1⟩
        · cases h0
      · cases h
    · cases h
  · cases h
theorem cell_of {c : Array Value} {e : TypeId} {fr : Nat × Nat} {b j : Nat} (h : w.heap[b]? = some (.cells c e fr)) : w.cell? ⟨b, j, none⟩ = c[j]? := by simp [World.cell?, h]
theorem shape_of {c : Array Value} {e : TypeId} {fr : Nat × Nat} {b : Nat} (h : w.heap[b]? = some (.cells c e fr)) : w.shape? b = some (e, c.size) := by
  unfold World.shape?
  rw [h]
theorem frozen_of {c : Array Value} {e : TypeId} {fr : Nat × Nat} {b j : Nat} (h : w.heap[b]? = some (.cells c e fr)) (hf : ∀ o, ¬ (fr.1 ≤ o ∧ o < fr.2)) : w.frozen? ⟨b, j, none⟩ = false := by
  have := hf j
  simp only [World.frozen?, h]
  rw [← Bool.not_eq_true]
  simpa using this
/-- A new row. -/
theorem ins_new (s : Now P X w0 ρ H w) {new news : List Value} {C : Array Value} {e : TypeId} {Hd : AH V} {q : Nat} (hs : Vec.size Hd = Vec.size H) (hw : ∀ b, weak (view Hd b) (view H b)) (hr : VRels ρ new news) (hC : C.toList.take new.length = news) (hm : new.length ≤ C.size ∧ C.size ≤ 9223372036854775807) :
    Did P X w0 ρ H (anew Hd new) w (.iface 0 (.slice (some ⟨Vec.size H, 0, none⟩) new.length 0)) (ρ.upd (Vec.size H) (w.heap.size, 0) (some (new.length, C.size))) (.slice (some ⟨w.heap.size, 0, none⟩) new.length C.size) (({ w with drawn := q } : World).alloc (.cells C e)) := by
  have hv : view (anew Hd new) = setB (view Hd) (Vec.size H) (.arr new true 0) := by rw [anew_eq, view_push, hs]
  have hst : St P X w0 ρ (view (anew Hd new)) ({ w with drawn := q } : World) := (s.st.weaken fun b p hb => by
    have := s.dom b p hb
    rw [hv, setB_ne _ _ (by omega)]; exact hw b).drawn q
  have hsz : Vec.size (anew Hd new) = Vec.size H + 1 := by rw [anew_eq, Vec.size_push, hs]
  refine ⟨Rho.le_upd _ _ s.fresh, ⟨hst.newRow s.fresh e (by rw [hv, setB_same]) hm.1 (by rw [hC]; exact hr), fun b p hb => ?_⟩, ?_, by omega, ?_, names_upd s.st.fresh⟩
  · rw [hsz]
    by_cases eb : b = Vec.size H
    · omega
    · rw [Rho.upd_ne ρ _ _ eb] at hb
      have := s.dom b p hb
      omega
  · exact .que (co := 0) (o := 0) (Rho.upd_same _ _ _ _) hm (by rw [Rho.lim_same, Nat.zero_add]) (by omega)
  · show w.heap.size ≤ (w.heap.push _).size
    simp
/-- In its place. -/
theorem ins_here (s : Now P X w0 ρ H w) {b cb co o sz n c' : Nat} {cs new news : List Value} (hg : Vec.get H b = some (.arr cs true 0)) (hρ : ρ b = some (cb, co)) (hlim : ρ.lim b = some (cs.length, sz)) {w' : World} (q1 : w'.os = w.os) (q2 : w'.tape = w.tape) (q3 : w'.output = w.output) (q4 : w'.heap.size = w.heap.size)
    (hoth : ∀ k, k ≠ cb → w'.heap[k]? = w.heap[k]?) {c c2 : Array Value} {e : TypeId} {fr : Nat × Nat} (hc : w.heap[cb]? = some (.cells c e fr)) (hc2 : w'.heap[cb]? = some (.cells c2 e fr)) (hcs : c2.size = c.size) (hpre : ∀ i, i < co → c2[i]? = c[i]?) (hr : VRels ρ new news) (hn : new.length = n)
    (hnew : ∀ i, i < n → c2[co + o + i]? = news[i]?) (hcap : n ≤ c' ∧ c' ≤ 9223372036854775807) (hsz : co + o + c' ≤ sz) :
    Did P X w0 ρ H (anew (Vec.set H b .dead) new) w (.iface 0 (.slice (some ⟨Vec.size H, 0, none⟩) n 0)) (ρ.upd (Vec.size H) (cb, co + o) (some (n, sz))) (.slice (some ⟨cb, co + o, none⟩) n c') w' := by
  subst hn
  have hv : view (anew (Vec.set H b .dead) new) = setB (setB (view H) b .dead) (Vec.size H) (.arr new true 0) := by rw [anew_eq, view_push, view_set hg, Vec.size_set]
  have hst := s.st.recell (id := Vec.size H) (o := o) (view_some hg) hρ s.fresh hlim q1 q2 q3 q4 hoth hc hc2 hcs hpre (new := new) (fun i v hv => by
    obtain ⟨v', a, r⟩ := hr.get hv
    exact ⟨v', by rw [hnew i (List.getElem?_eq_some_iff.1 hv).1]; exact a, r⟩) (by omega)
  have hsize : Vec.size (anew (Vec.set H b .dead) new) = Vec.size H + 1 := by rw [anew_eq, Vec.size_push, Vec.size_set]
  refine ⟨Rho.le_upd _ _ s.fresh, ⟨by rw [hv]; exact hst, fun i p hi => ?_⟩, ?_, by omega, Nat.le_of_eq q4.symm, fun i p hi => ?_⟩
  · rw [hsize]
    by_cases eb : i = Vec.size H
    · omega
    · rw [Rho.upd_ne ρ _ _ eb] at hi
      have := s.dom i p hi
      omega
  · exact .que (co := co + o) (o := 0) (Rho.upd_same _ _ _ _) hcap (by rw [Rho.lim_same, Nat.zero_add]) (by omega)
  · by_cases eb : i = Vec.size H
    · subst eb
      rw [Rho.upd_same] at hi; cases hi
      have hb := s.st.blk _ _ hρ
      rw [view_some hg] at hb
      obtain ⟨_, _, _, _, _, _, g4⟩ := hb
      exact .inr (g4 rfl).1
    · rw [Rho.upd_ne ρ _ _ eb] at hi; exact .inl hi
theorem take_mid {α : Type} {l : List α} {v : α} {k i : Nat} (hk : k ≤ l.length) : (l.take k ++ v :: l.drop k)[i]? = if i < k then l[i]? else if i = k then some v else l[i - 1]? := by
  by_cases h : i < k
  · rw [if_pos h, List.getElem?_append_left (by rw [List.length_take]; omega), List.getElem?_take, if_pos h]
  · rw [if_neg h, List.getElem?_append_right (by rw [List.length_take]; omega), List.length_take, Nat.min_eq_left hk]
    by_cases e : i = k
    · subst e; simp
    · rw [if_neg e]
      obtain ⟨j, rfl⟩ : ∃ j, i = k + 1 + j := ⟨i - k - 1, by omega⟩
      rw [show k + 1 + j - k = j + 1 by omega, List.getElem?_cons_succ, List.getElem?_drop, show k + 1 + j - 1 = k + j by omega]
end
section
open Go.Shelf Go.Proofs
variable {P : Program} {V : Type → Type} [Vec V] {H H' : AH V} {ρr : Ren}
theorem ains_ok (L : Lays2.n21 P ρr) (hex : ∃ fn c, P.funcs[ρr.f 21]? = some fn ∧ fn.body = some c ∧ (fn.name == "runtime.NumGoroutine") = false) {g : FuncId} {args : List Value} {v : Value} (h : ains (ρr.f 21) g args H = some (v, H')) : CallsOk P g args H v H' := by
  unfold ains at h
  split at h
  case isFalse => cases h
  rename_i hgf
  subst hgf
  split at h
  case h_2 => cases h
  rename_i s0 k x
  split at h
  case h_2 => cases h
  rename_i vb v0 hE
  split at h
  case isFalse => cases h
  rename_i hc
  obtain ⟨hone, hk0⟩ := hc
  obtain ⟨k, rfl⟩ : ∃ m : Nat, k = m := ⟨k.toNat, by omega⟩
  refine ⟨hex, fun X w0 ρ w args' hargs s r n0 => ?_⟩
  cases hargs with
  | cons hs t =>
  cases t with
  | cons hk t =>
  cases t with
  | cons hx t =>
  cases t
  rename_i s' k' x'
  obtain rfl := hk.int
  obtain ⟨cvb, cvo, co0, vc, v', vcc, ve, vfr, vcs, vlo, hvρ, hvv, rfl, hvr, hvh, hvc, hvf, hvX⟩ := ainsE_ok s hx hE
  have hv1 : v'.oneCell' = true := by rw [← oneCell_eq, hvr.oneCell]; exact hone
  have hvs : ∀ j u, [v'][j]? = some u → w.cell? ⟨cvb, cvo + j, none⟩ = some u := fun j u hj => by
    cases j with
    | zero => cases hj; rw [cell_of hvh]; exact hvc
    | succ j => simp at hj
  have h1v : ∀ u ∈ [v'], u.oneCell' = true := fun u hu => by rw [List.mem_singleton] at hu; rw [hu]; exact hv1
  have empty : (∃ a, s' = .slice a 0 0) → (if (k : Int) = 0 then some (Value.iface 0 (.slice (some ⟨Vec.size H, 0, none⟩) 1 0), anew H [v0]) else none) = some (v, H') → CallsIn (FW r) n0 P (ρr.f 21) [s', Value.int .i64 (k : Int), .slice (some ⟨cvb, cvo, none⟩) 1 vc].toArray w (OnlyReturns fun v' w' => ∃ ρ', Did P X w0 ρ H H' w v ρ' v' w') := by
    intro hs' he
    by_cases hk00 : (k : Int) = 0
    case neg => rw [if_neg hk00] at he; cases he
    rw [if_pos hk00] at he
    cases he
    obtain rfl : k = 0 := by omega
    obtain ⟨a, rfl⟩ := hs'
    have hcall := Any2.slices_Insert_int_end_grow L a 0 0 cvb cvo 1 vc [] [v'] w (by omega) (Nat.le_refl _) (by omega) (by decide) rfl rfl (fun _ => rfl) (fun _ _ j u hu => by simp at hu) hvs h1v
    refine callsIn_wide.2 (hcall.mono ?_)
    rintro e w' ⟨rfl, rfl⟩
    have hcap := grownCap_ge w (0 + 1) 0 (ρr.t 3)
    have hmax := grownCap_le_maxLen w (0 + 1) 0 (ρr.t 3) (by decide)
    obtain ⟨G, hG⟩ : ∃ G, grownCap w (0 + 1) 0 (ρr.t 3) = G := ⟨_, rfl⟩
    rw [hG] at hcap hmax ⊢
    have hsz : ((([] ++ [v'] : List Value).toArray ++ Builtin.zeroCells (Value.int .i64 0).cells (G - (0 + 1)))).size = G := by
      rw [Array.size_append, size_zeroCells]
      simp [Value.cells]
      omega
    have hd := ins_new s (new := [v0]) (news := [v']) (C := ([] ++ [v'] : List Value).toArray ++ Builtin.zeroCells (Value.int .i64 0).cells (G - (0 + 1))) (e := ρr.t 3) (q := w.drawn + 1) rfl (fun b => weak_refl _) (.cons hvr .nil) (by simp) ⟨by rw [hsz]; exact hcap, by rw [hsz]; exact hmax⟩
    rw [hsz] at hd
    exact ⟨_, rfl, _, hd⟩
  split at h
  · -- an empty list without room
    rename_i b o
    obtain ⟨b1, o1, cb, co, hq, hρ, hv⟩ := hs.sl_some rfl
    cases hq
    have hs' : ∃ a, s' = .slice a 0 0 := by
      rcases hv with ⟨c', rfl, _, hex, _⟩ | ⟨_, _, o', c', rfl, hex⟩
      · exact ⟨_, by rw [hex rfl]⟩
      · exact ⟨_, by rw [hex rfl]⟩
    exact empty hs' h
  · -- none
    obtain ⟨_, _, rfl⟩ := hs.sl_none
    exact empty ⟨_, rfl⟩ h
  · -- a queue
    rename_i b o n
    split at h
    case h_2 => cases h
    rename_i cs hg
    split at h
    case isFalse => cases h
    rename_i hcnd
    obtain ⟨⟨hcl, hkn⟩, ⟨hbig, hne⟩, hall⟩ := hcnd
    have hkn : k ≤ n := by omega
    simp only [Option.some.injEq, Prod.mk.injEq, Int.toNat_natCast] at h
    obtain ⟨rfl, rfl⟩ := h
    have hbig' : (n + 1) * 8 ≤ 140737488355328 := hbig
    obtain ⟨_, _, cb, co, hρ, hv⟩ := hs.que_inv
    have hvb := view_some hg
    have hblk := s.st.blk _ _ hρ
    rw [hvb] at hblk
    obtain ⟨c, e, fr, g1, g2, g3, g4⟩ := hblk
    simp only at g1 g2 g3
    obtain ⟨rs, hrs, hrl, hrange⟩ := s.st.range (off := o) (n := n) hvb hρ (by omega)
    have htk : (cs.drop o).take n = cs.drop o := List.take_of_length_le (by rw [List.length_drop]; omega)
    rw [htk] at hrs
    have hnew : VRels ρ ((cs.drop o).take k ++ v0 :: cs.drop (o + k)) (rs.take k ++ v' :: rs.drop k) := by
      rw [← List.drop_drop]
      exact (hrs.take k).append (.cons hvr (hrs.drop k))
    have hnl : ((cs.drop o).take k ++ v0 :: cs.drop (o + k)).length = n + 1 := by
      rw [List.length_append, List.length_take, List.length_cons, List.length_drop, List.length_drop]; omega
    have hnl' : (rs.take k ++ v' :: rs.drop k).length = n + 1 := by rw [← hnew.length, hnl]
    have h1c : ∀ u ∈ rs, u.oneCell' = true := fun u hu => by
      obtain ⟨j, hj, rfl⟩ := List.mem_iff_getElem.1 hu
      have hj' : j < (cs.drop o).length := by rw [hrs.length]; exact hj
      obtain ⟨u', a, r⟩ := hrs.get (List.getElem?_eq_getElem hj')
      rw [List.getElem?_eq_getElem hj] at a
      cases a
      rw [← oneCell_eq, r.oneCell]
      exact List.all_eq_true.1 hall _ (List.getElem_mem hj')
    have hdead : ∀ i, weak (view (Vec.set H b .dead) i) (view H i) := fun i => by
      rw [view_set hg]
      by_cases e : i = b
      · subst e; rw [setB_same]; exact .inr (.inl rfl)
      · rw [setB_ne _ _ e]; exact weak_refl _
    -- a new row of what there was and the new one
    have grow : ∀ (C : Array Value) (G q : Nat), C.size = G → n + 1 ≤ G → G ≤ 9223372036854775807 → (∀ i, i < n + 1 → C[i]? = (rs.take k ++ v' :: rs.drop k)[i]?) → Did P X w0 ρ H (anew (Vec.set H b .dead) ((cs.drop o).take k ++ v0 :: cs.drop (o + k))) w (.iface 0 (.slice (some ⟨Vec.size H, 0, none⟩) (n + 1) 0)) (ρ.upd (Vec.size H) (w.heap.size, 0) (some (n + 1, G))) (.slice (some ⟨w.heap.size, 0, none⟩) (n + 1) G) (({ w with drawn := q } : World).alloc (.cells C (ρr.t 3))) := by
      intro C G q hC h1 h2 hi
      have hd := ins_new s (new := (cs.drop o).take k ++ v0 :: cs.drop (o + k)) (news := rs.take k ++ v' :: rs.drop k) (C := C) (e := ρr.t 3) (q := q) (Vec.size_set ..) hdead hnew (by
        rw [hnl]
        apply List.ext_getElem?
        intro i
        rw [List.getElem?_take]
        by_cases w1 : i < n + 1
        · rw [if_pos w1, Array.getElem?_toList, hi i w1]
        · rw [if_neg w1, List.getElem?_eq_none (by omega)]) ⟨by rw [hnl, hC]; exact h1, by rw [hC]; exact h2⟩
      rw [hnl, hC] at hd
      exact hd
    have hcap : ∀ c', n + 1 ≤ grownCap w (n + 1) c' (ρr.t 3) := fun c' => grownCap_ge w (n + 1) c' (ρr.t 3)
    have hmax : ∀ c', grownCap w (n + 1) c' (ρr.t 3) ≤ 9223372036854775807 := fun c' => grownCap_le_maxLen w (n + 1) c' (ρr.t 3) (by unfold maxLen; omega)
    have endGrow : ∀ (a : Addr) (c' : Nat), s' = .slice (some a) n c' → n ≤ c' → c' < n + 1 → k = n → (∀ j u, rs[j]? = some u → w.cell? (a.add j) = some u) → CallsIn (FW r) n0 P (ρr.f 21) [s', Value.int .i64 (k : Int), .slice (some ⟨cvb, cvo, none⟩) 1 vc].toArray w (OnlyReturns fun v' w' => ∃ ρ', Did P X w0 ρ H (anew (Vec.set H b .dead) ((cs.drop o).take k ++ v0 :: cs.drop (o + k))) w (.iface 0 (.slice (some ⟨Vec.size H, 0, none⟩) (n + 1) 0)) ρ' v' w') := by
      intro a c' hs1 h1 h2 hkn2 hcell
      subst hs1
      have hcall := Any2.slices_Insert_int_end_grow L (some a) n c' cvb cvo 1 vc rs [v'] w (by omega) h1 h2 hbig' hrl rfl (fun h => nomatch h) (fun a' ha => by cases ha; exact hcell) hvs h1v
      rw [hkn2]
      refine callsIn_wide.2 (hcall.mono ?_)
      rintro e w' ⟨rfl, rfl⟩
      rw [hkn2] at grow
      refine ⟨_, rfl, _, grow _ _ (w.drawn + 1) ?_ (hcap c') (hmax c') ?_⟩
      · rw [Array.size_append, size_zeroCells]
        simp [Value.cells, hrl]
        have := hcap c'
        omega
      · intro i hi
        rw [Array.getElem?_append_left (by simp [hrl]; omega), List.getElem?_toArray, take_mid (by omega)]
        by_cases w1 : i < n
        · rw [if_pos w1, List.getElem?_append_left (by omega)]
        · rw [if_neg w1, if_pos (by omega), List.getElem?_append_right (by omega), hrl, show i - n = 0 by omega]; rfl
    rcases hv with ⟨c', sz, rfl, ⟨hn1, hM⟩, hlim, hsz⟩ | ⟨rfl, o', rfl⟩
    · obtain ⟨sz', c3, e3, fr3, hl1, hl2, hl3⟩ := s.st.lim b _ cs 0 hρ hvb
      rw [hlim] at hl1
      obtain rfl : sz = sz' := by simpa using (Prod.mk.inj (Option.some.inj hl1)).2
      rw [g1] at hl2
      cases hl2
      rw [← hcl] at hlim
      by_cases hroom : n + 1 ≤ c'
      · -- in its place
        obtain ⟨r1, r2, r3, r4⟩ := setCells_rest cb [v'] (co + o + k) (w.drew.setCells cb (co + o + (k + 1)) (rs.drop k))
        obtain ⟨t1, t2, t3, t4⟩ := setCells_rest cb (rs.drop k) (co + o + (k + 1)) w.drew
        by_cases hkn2 : k < n
        · have hcvb : cvb ≠ cb := fun e0 => by
            rcases s.st.sharers hvb hρ hne hvρ e0 with hd | ⟨cs', lo1, hd, _⟩
            · rw [hvv] at hd; cases hd
            · rw [hvv] at hd; cases hd
          have hcall := Any2.slices_Insert_int_shift L cb (co + o) n c' k cvb cvo 1 vc rs [v'] w hkn2 (by omega) hroom hM hcvb hrl rfl hrange
            (fun j hj => by rw [cell_of g1]; simp; omega) (fun j hj => frozen_of g1 (g4 rfl).2) hvs h1c h1v ve e vcc.size c.size (shape_of hvh) (shape_of g1) (by omega) (frozen_of hvh hvf) (frozen_of hvh hvf)
          refine callsIn_wide.2 (hcall.mono ?_)
          rintro e' w' ⟨rfl, rfl⟩
          have hh1 := setCells_heap cb (rs.drop k) (co + o + (k + 1)) w.drew c e fr g1
          have hh2 := setCells_heap cb [v'] (co + o + k) _ _ e fr hh1
          refine ⟨_, rfl, _, ins_here s (n := n + 1) (c' := c') hg hρ hlim (r1.trans t1) (r2.trans t2) (r3.trans t3) (r4.trans t4) (fun q hq => by rw [setCells_other cb _ _ _ q hq, setCells_other cb _ _ _ q hq]; rfl) g1 hh2 (by rw [csplice_size, csplice_size]) (fun i hi => ?_) hnew hnl (fun i hi => ?_) ⟨hroom, hM⟩ hsz⟩
          · rw [csplice_get _ _ _ _ (by rw [csplice_size]; simp; omega), if_neg (by omega), csplice_get _ _ _ _ (by rw [List.length_drop]; omega), if_neg (by omega)]
          · rw [csplice_get _ _ _ _ (by rw [csplice_size]; simp; omega), take_mid (by omega)]
            by_cases w1 : i < k
            · rw [if_pos w1, if_neg (by omega), csplice_get _ _ _ _ (by rw [List.length_drop]; omega), if_neg (by omega)]
              have hir : i < rs.length := by omega
              have := hrange i rs[i] (List.getElem?_eq_getElem hir)
              rw [cell_of g1] at this
              rw [this, List.getElem?_eq_getElem hir]
            · by_cases w2 : i = k
              · subst w2
                rw [if_pos ⟨by omega, by simp⟩, if_neg w1, if_pos rfl, Nat.sub_self]; rfl
              · rw [if_neg (by simp; omega), if_neg w1, if_neg w2, csplice_get _ _ _ _ (by rw [List.length_drop]; omega), if_pos ⟨by omega, by rw [List.length_drop]; omega⟩, List.getElem?_drop]
                congr 1; omega
        · obtain rfl : k = n := by omega
          have hcall := Any2.slices_Insert_int_end_room L cb (co + o) k c' cvb cvo 1 vc [v'] w (by omega) hroom hM rfl
            (fun j hj => by rw [cell_of g1]; simp; omega) (fun j hj => frozen_of g1 (g4 rfl).2) hvs h1v
          refine callsIn_wide.2 (hcall.mono ?_)
          rintro e' w' ⟨rfl, rfl⟩
          obtain ⟨r1, r2, r3, r4⟩ := setCells_rest cb [v'] (co + o + k) w
          have hh2 := setCells_heap cb [v'] (co + o + k) w c e fr g1
          refine ⟨_, rfl, _, ins_here s (n := k + 1) (c' := c') hg hρ hlim r1 r2 r3 r4 (fun q hq => setCells_other cb _ _ _ q hq) g1 hh2 (csplice_size _ _ _) (fun i hi => ?_) hnew hnl (fun i hi => ?_) ⟨hroom, hM⟩ hsz⟩
          · rw [csplice_get _ _ _ _ (by simp; omega), if_neg (by omega)]
          · rw [csplice_get _ _ _ _ (by simp; omega), take_mid (by omega)]
            by_cases w1 : i < k
            · rw [if_pos w1, if_neg (by omega)]
              have hir : i < rs.length := by omega
              have := hrange i rs[i] (List.getElem?_eq_getElem hir)
              rw [cell_of g1] at this
              rw [this, List.getElem?_eq_getElem hir]
            · obtain rfl : i = k := by omega
              rw [if_pos ⟨by omega, by simp⟩, if_neg w1, if_pos rfl, Nat.sub_self]; rfl
      · by_cases hkn2 : k < n
        · have hcall := Any2.slices_Insert_int_grow L cb (co + o) n c' k cvb cvo 1 vc rs [v'] w hkn2 (by omega) hn1 (by omega) hbig' hrl rfl hrange hvs h1c h1v
          refine callsIn_wide.2 (hcall.mono ?_)
          rintro e' w' ⟨rfl, rfl⟩
          obtain ⟨G, hG⟩ : ∃ G, grownCap w (n + 1) c' (ρr.t 3) = G := ⟨_, rfl⟩
          have hG1 : n + 1 ≤ G := hG ▸ hcap c'
          have hG2 : G ≤ 9223372036854775807 := hG ▸ hmax c'
          rw [hG]
          obtain ⟨ROW, hR⟩ : ∃ ROW : Array Value, (rs.take k).toArray ++ Builtin.zeroCells (Value.int .i64 0).cells (n + 1 - k) ++ Builtin.zeroCells (Value.int .i64 0).cells (G - (n + 1)) = ROW := ⟨_, rfl⟩
          have hRs : ROW.size = G := by
            rw [← hR, Array.size_append, Array.size_append, size_zeroCells, size_zeroCells]
            simp [Value.cells, hrl]
            omega
          have hRk : ∀ i, i < k → ROW[i]? = rs[i]? := fun i hi => by
            rw [← hR, Array.append_assoc, Array.getElem?_append_left (by simp; omega), List.getElem?_toArray, List.getElem?_take, if_pos hi]
          have e1 : (w.alloc (.cells ROW (ρr.t 3))).drew = w.drew.alloc (.cells ROW (ρr.t 3)) := rfl
          have e2 : (w.drew.alloc (.cells ROW (ρr.t 3))).setCells w.heap.size k [v'] = w.drew.alloc (.cells (csplice ROW k [v']) (ρr.t 3)) := setCells_alloc (ρr.t 3) [v'] k w.drew ROW
          have e3 : (w.drew.alloc (.cells (csplice ROW k [v']) (ρr.t 3))).drew = w.drew.drew.alloc (.cells (csplice ROW k [v']) (ρr.t 3)) := rfl
          have e4 : (w.drew.drew.alloc (.cells (csplice ROW k [v']) (ρr.t 3))).setCells w.heap.size (k + 1) (rs.drop k) = w.drew.drew.alloc (.cells (csplice (csplice ROW k [v']) (k + 1) (rs.drop k)) (ρr.t 3)) := setCells_alloc (ρr.t 3) (rs.drop k) (k + 1) w.drew.drew _
          rw [hR, e1, e2, e3, e4]
          refine ⟨_, rfl, _, grow _ G (w.drawn + 1 + 1) (by rw [csplice_size, csplice_size, hRs]) hG1 hG2 fun i hi => ?_⟩
          rw [csplice_get _ _ _ _ (by rw [csplice_size, List.length_drop]; omega), take_mid (by omega)]
          by_cases w1 : i < k
          · rw [if_pos w1, if_neg (by omega), csplice_get _ _ _ _ (by simp; omega), if_neg (by omega), hRk i w1]
          · by_cases w2 : i = k
            · subst w2
              rw [if_neg w1, if_pos rfl, if_neg (by omega), csplice_get _ _ _ _ (by simp; omega), if_pos ⟨by omega, by simp⟩, Nat.sub_self]; rfl
            · rw [if_neg w1, if_neg w2, if_pos ⟨by omega, by rw [List.length_drop]; omega⟩, List.getElem?_drop]
              congr 1; omega
        · exact endGrow _ c' rfl hn1 (by omega) (by omega) fun j u hu => by rw [add_mk]; exact hrange j u hu
    · obtain rfl : k = 0 := by omega
      have hrs0 : rs = [] := List.eq_nil_of_length_eq_zero hrl
      exact endGrow _ 0 rfl (Nat.le_refl _) (by omega) rfl fun j u hu => by rw [hrs0] at hu; simp at hu
  · cases h
end
end Go.Proofs.Ytollibkfagjnaaa.AM
