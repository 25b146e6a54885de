/- append and copy of the model against those of the abstract machine. -/
import Derived.Test.YtdbehmepikhghaaAM6
set_option linter.unusedVariables false
set_option linter.unusedSimpArgs false
namespace Go.Proofs.Ytdbehmepikhghaa.AM
section
variable {P : Program} {X : Nat → Option Obj} {w0 w : World} {ρv : Operand → Value} {o : Oper} {ρ : Rho} {h : Nat → Blk} {V : Type → Type} [Vec V] {ev : Operand → Option Value} {H H' : AH V} {v : Value}
  {call : Value → List Value → AH V → Option (Value × AH V)} {share : Bool}

theorem sepOk_new {cs : List Value} {lo : Nat} {p p' : Nat × Nat} {B : Blk} (hB : B = .dead ∨ ∃ cs' lo', B = .arr cs' false lo' ∧ p'.2 + cs'.length ≤ p.2 + lo) : sepOk (.arr cs true lo) p B p' ∧ sepOk B p' (.arr cs true lo) p := by
  rcases hB with rfl | ⟨cs', lo', rfl, hl⟩
  · exact ⟨trivial, trivial⟩
  · exact ⟨hl, trivial⟩

/-- There was room: the block goes on under a new name. -/
theorem St.regrow (s : St P X w0 ρ h w) {b id cb co sz : Nat} {cs : List Value} {lo lo' : Nat} (hb : h b = .arr cs true lo) (hp : ρ b = some (cb, co)) (hid : ρ id = none) (hlim : ρ.lim b = some (cs.length, sz)) {Bo : Blk}
    (hBo : Bo = .dead ∨ (Bo = .arr cs false 0 ∧ cs.length ≤ lo')) (hlo : lo ≤ lo') (hloc : lo ≤ cs.length) {new news : List Value} (hr : VRels ρ new news) (hsz : co + cs.length + new.length ≤ sz) :
    St P X w0 (ρ.upd id (cb, co) (some (cs.length + new.length, sz))) (setB (setB h b Bo) id (.arr (cs ++ new) true lo')) (w.setCells cb (co + cs.length) news) := by
  have hne : id ≠ b := fun e => by subst e; rw [hid] at hp; cases hp
  have hlen := hr.length
  have hblk := s.blk b _ hp
  rw [hb] at hblk
  obtain ⟨c, e, fr, h1, h2, h3, h4⟩ := hblk
  simp only at h1 h2 h3 h4
  obtain ⟨sz', c', e', fr', hl1, hl2, hl3⟩ := s.lim b _ cs lo hp hb
  rw [hlim] at hl1
  cases hl1
  rw [h1] at hl2
  cases hl2
  obtain ⟨r1, r2, r3, r4⟩ := setCells_rest cb news (co + cs.length) w
  have hheap := setCells_heap cb news (co + cs.length) w c e fr h1
  have hoth := fun k hk => setCells_other cb news (co + cs.length) w k hk
  have hle := Rho.le_upd (cb, co) (some (cs.length + new.length, sz)) hid
  have hweak : weak Bo (h b) := by
    rcases hBo with rfl | ⟨rfl, _⟩
    · exact .inr (.inl rfl)
    · exact .inr (.inr ⟨_, _, _, _, hb, rfl⟩)
  -- what the cells ahead hold
  have hold : ∀ (off : Nat) (u : Value), off < co + cs.length → c[off]? = some u → (csplice c (co + cs.length) news)[off]? = some u := fun off u ho hu => by
    rw [csplice_get news c _ _ (by omega), if_neg (by omega)]; exact hu
  have hread : ∀ (q : Nat × Nat) (cs' : List Value) (lo1 : Nat), q.1 = cb → q.2 + cs'.length ≤ co + cs.length → BRel P X ρ w q (.arr cs' false lo1) → BRel P X ρ (w.setCells cb (co + cs.length) news) q (.arr cs' false lo1) := by
    intro q cs' lo1 hq hql hB
    obtain ⟨c2, e2, fr2, g1, g2, g3, _⟩ := hB
    rw [hq, h1] at g1
    cases g1
    refine ⟨_, e, fr, by rw [hq]; exact hheap, by rw [csplice_size]; exact g2, fun i u hu => ?_, fun hf => by cases hf⟩
    obtain ⟨u', a, r⟩ := g3 i u hu
    have hi : i < cs'.length := (List.getElem?_eq_some_iff.1 hu).1
    exact ⟨u', hold _ _ (by omega) a, r⟩
  have hb' : BRel P X ρ (w.setCells cb (co + cs.length) news) (cb, co) Bo := by
    rcases hBo with rfl | ⟨rfl, _⟩
    · trivial
    · exact hread (cb, co) cs 0 rfl (Nat.le_refl _) ⟨c, e, fr, h1, h2, h3, fun hf => by cases hf⟩
  refine ⟨r1.trans s.os, r2.trans s.tape, r3.trans s.output, by rw [r4]; exact s.size, fun k ob hk => ?_, fun i p hi => ?_, fun i p hi => ?_, fun i j p q hij hi hj hq => ?_, fun i p csi loi hi hbi => ?_⟩
  · rw [hoth k (fun e => by subst e; rw [(h4 trivial).1] at hk; cases hk)]; exact s.frame k ob hk
  · rw [r4]
    by_cases ei : i = id
    · subst ei; rw [Rho.upd_same] at hi; cases hi; exact s.dom b _ hp
    · rw [Rho.upd_ne ρ _ _ ei] at hi; exact s.dom i p hi
  · by_cases ei : i = id
    · subst ei
      rw [Rho.upd_same] at hi
      cases hi
      rw [setB_same]
      refine ⟨_, e, fr, hheap, by rw [csplice_size]; simp; omega, fun i u hu => ?_, fun _ => ⟨(h4 trivial).1, fun o ho => (h4 trivial).2 o (by rw [csplice_size] at ho; exact ho)⟩⟩
      by_cases hi : i < cs.length
      · rw [List.getElem?_append_left hi] at hu
        obtain ⟨u', a, r⟩ := h3 i u hu
        exact ⟨u', hold _ _ (by omega) a, r.mono hle⟩
      · rw [List.getElem?_append_right (by omega)] at hu
        obtain ⟨u', a, r⟩ := hr.get hu
        have hlt : i - cs.length < new.length := (List.getElem?_eq_some_iff.1 hu).1
        refine ⟨u', ?_, r.mono hle⟩
        simp only
        rw [csplice_get news c _ _ (by omega), if_pos (by omega), ← a]
        congr 1; omega
    · rw [Rho.upd_ne ρ _ _ ei] at hi
      rw [setB_ne _ _ ei]
      by_cases eb : i = b
      · subst eb
        rw [hp] at hi; cases hi
        rw [setB_same]
        exact hb'.mono hle
      · rw [setB_ne _ _ eb]
        by_cases e2 : p.1 = cb
        · rcases s.sharers hb hp eb hi e2 with hd | ⟨cs', lo1, hd, hle1⟩
          · rw [hd]; trivial
          · rw [hd]
            have := s.blk i p hi
            rw [hd] at this
            exact (hread p cs' lo1 e2 (by omega) this).mono hle
        · exact ((s.blk i p hi).heap p (hoth _ e2)).mono hle
  · -- apart
    have hshare : ∀ k pk, k ≠ id → (ρ.upd id (cb, co) (some (cs.length + new.length, sz))) k = some pk → pk.1 = cb →
        (setB (setB h b Bo) id (.arr (cs ++ new) true lo')) k = .dead ∨ ∃ cs' lo1, (setB (setB h b Bo) id (.arr (cs ++ new) true lo')) k = .arr cs' false lo1 ∧ pk.2 + cs'.length ≤ co + lo' := by
      intro k pk hk hpk hcb
      rw [Rho.upd_ne ρ _ _ hk] at hpk
      rw [setB_ne _ _ hk]
      by_cases eb : k = b
      · subst eb
        rw [hp] at hpk; cases hpk
        rw [setB_same]
        rcases hBo with rfl | ⟨rfl, hl⟩
        · exact .inl rfl
        · exact .inr ⟨_, _, rfl, by simp only; omega⟩
      · rw [setB_ne _ _ eb]
        rcases s.sharers hb hp eb hpk hcb with hd | ⟨cs', lo1, hd, hle1⟩
        · exact .inl hd
        · exact .inr ⟨cs', lo1, hd, by omega⟩
    by_cases ei : i = id
    · subst ei
      rw [Rho.upd_same] at hi
      cases hi
      rw [setB_same]
      exact (sepOk_new (hshare j q (Ne.symm hij) hj hq.symm)).1
    · by_cases ej : j = id
      · subst ej
        rw [Rho.upd_same] at hj
        cases hj
        rw [setB_same]
        exact (sepOk_new (hshare i p ei hi hq)).2
      · rw [Rho.upd_ne ρ _ _ ei] at hi
        rw [Rho.upd_ne ρ _ _ ej] at hj
        rw [setB_ne _ _ ei, setB_ne _ _ ej]
        have hw : ∀ k, weak (setB h b Bo k) (h k) := fun k => by
          by_cases ek : k = b
          · subst ek; rw [setB_same]; exact hweak
          · rw [setB_ne _ _ ek]; exact weak_refl _
        exact sepOk_weak (hw i) (hw j) (s.sep i j p q hij hi hj hq) (s.sep j i q p (Ne.symm hij) hj hi hq.symm)
  · by_cases ei : i = id
    · subst ei
      rw [Rho.upd_same] at hi
      cases hi
      rw [setB_same] at hbi
      cases hbi
      exact ⟨sz, _, e, fr, by rw [Rho.lim_same, List.length_append], hheap, by rw [csplice_size]; exact hl3⟩
    · rw [Rho.upd_ne ρ _ _ ei] at hi
      rw [setB_ne _ _ ei] at hbi
      rw [Rho.lim_ne ρ _ _ ei]
      by_cases eb : i = b
      · subst eb
        rw [setB_same] at hbi
        rcases hBo with rfl | ⟨rfl, _⟩ <;> cases hbi
      · rw [setB_ne _ _ eb] at hbi
        by_cases e2 : p.1 = cb
        · rcases s.sharers hb hp eb hi e2 with hd | ⟨cs', lo1, hd, hle1⟩
          · rw [hd] at hbi; cases hbi
          · rw [hd] at hbi; cases hbi
        · obtain ⟨sz2, c2, e2', fr2, g1, g2, g3⟩ := s.lim i p csi loi hi hbi
          exact ⟨sz2, c2, e2', fr2, g1, by rw [hoth _ e2]; exact g2, g3⟩

theorem size_zeroCells (z : Array Value) (n : Nat) : (Builtin.zeroCells z n).size = n * z.size := by simp [Builtin.zeroCells]

/-- There was none: a new block. -/
theorem grow_sound (s : Now P X w0 ρ H w) {t tx ty e : TypeId} {i : TypeInfo} {z : Value} (ht : P.underlying t = some (.slice e)) (hi : P.info? e = some i) (hz : i.zero = some z) (hzs : z.cells.size = i.size)
    {base : Option Addr} {n c' k : Nat} {old olds new news : List Value} (hold : (Builtin.firstCells i.size n (.slice base n c')).run P w.drew = .ok olds.toArray w.drew) (ho : VRels ρ old olds) (hol : olds.length = n * i.size)
    {x' : Value} (hs : Go.Src P i.size tx x' k news w) (hr : VRels ρ new news) (hg : c' < n + k) (hbytes : (n + k) * i.bytes ≤ 140737488355328) (hb0 : 0 < i.bytes) {hh : Nat → Blk} (hw : ∀ b p, ρ b = some p → weak (hh b) (view H b))
    {lo : Nat} (hid : hh (Vec.size H) = .arr (old ++ new) true lo) :
    ∃ ρ' v' w', (Builtin.append_ #[t, tx] ty #[.slice base n c', x']).run P w = .ok v' w' ∧ ρ.le ρ' ∧ St P X w0 ρ' hh w' ∧ (∀ b p, ρ' b = some p → b < Vec.size H + 1) ∧
      VRel ρ' (.slice (some ⟨Vec.size H, 0, none⟩) (n + k) (2 * (n + k))) v' ∧ w.heap.size ≤ w'.heap.size ∧ ∀ b p, ρ' b = some p → ρ b = some p ∨ X p.1 = none := by
  have hnl := hs.newsLen
  have hle63 : n + k ≤ 140737488355328 := Nat.le_trans (Nat.le_mul_of_pos_right _ hb0) hbytes
  have hrun := run_append_grow_src w t tx ty e i z ht hi hz base n c' olds hold x' k news hs hg (by omega) (growslice_fits hg hbytes)
  have hcap := grownCap_ge w (n + k) c' e
  have hcl : (old ++ new).length = (olds ++ news).length := (ho.append hr).length
  have hlen : (olds ++ news).length = (n + k) * i.size := by rw [List.length_append, hol, hnl, Nat.add_mul]
  have hst : St P X w0 _ hh w.drew := (s.st.weaken hw).drawn (w.drawn + 1)
  have hnew := hst.newRow s.fresh (c := (olds ++ news).toArray ++ Builtin.zeroCells z.cells (grownCap w (n + k) c' e - (n + k))) e hid (by rw [hcl]; simp) (by
    rw [hcl]
    simp only [Array.toList_append, List.take_left]
    exact ho.append hr)
  refine ⟨_, _, _, hrun, Rho.le_upd _ _ s.fresh, hnew, fun b p hb => ?_, ?_, ?_, names_upd s.st.fresh⟩
  · by_cases eb : b = Vec.size H
    · omega
    · rw [Rho.upd_ne ρ _ _ eb] at hb
      have := s.dom b p hb
      omega
  · have hsz : ((olds ++ news).toArray ++ Builtin.zeroCells z.cells (grownCap w (n + k) c' e - (n + k))).size = grownCap w (n + k) c' e * i.size := by
      rw [Array.size_append, size_zeroCells, hzs]
      simp only [List.size_toArray, hlen]
      rw [← Nat.add_mul]; congr 1; omega
    refine .sl (e := 0) (co := 0) (o := 0) (cb := w.heap.size) (Rho.upd_same _ _ _ _) hcap (by omega) (by omega) (fun _ _ L sz hL size hc => ?_)
    rw [Rho.lim_same] at hL
    cases hL
    rw [hcl, hlen] at hc
    have h0 : 0 < n + k := by omega
    have : size = i.size := Nat.eq_of_mul_eq_mul_left h0 hc
    subst this
    rw [Nat.zero_add]
    exact Nat.le_of_eq hsz.symm
  · show w.heap.size ≤ (w.heap.push _).size
    simp

theorem view_self {b : Nat} {B : Blk} (hb : Vec.get H b = some B) : view (Vec.set H b B) = view H := by
  rw [view_set hb]
  funext i
  by_cases e : i = b
  · subst e; rw [setB_same, view_some hb]
  · rw [setB_ne _ _ e]
theorem splice_nil (cs : List Value) (o : Nat) : splice cs o [] = cs := rfl
theorem append_sound (s : Now P X w0 ρ H w) {t tx ty e : TypeId} (ht : P.underlying t = some (.slice e)) (htx : (∃ e', P.underlying tx = some (.slice e')) ∨ P.underlying tx = some .string)
    (hzt : zeroOk P e = true) (hpos : 0 < sizeT P e) (hby : 0 < bytesT P e) {x x' y y' : Value} (hx : VRel ρ x x') (hy : VRel ρ y y')
    (ha : aappend share (sizeT P e) (bytesT P e) H x y = some (v, H')) :
    ∃ ρ' v' w', (Builtin.append_ #[t, tx] ty #[x', y']).run P w = .ok v' w' ∧ Did P X w0 ρ H H' w v ρ' v' w' := by
  unfold zeroOk at hzt
  cases hz : zeroT P e with
  | none => rw [hz] at hzt; cases hzt
  | some zs =>
  rw [hz] at hzt
  simp only [beq_iff_eq] at hzt
  obtain ⟨i, z, hi, hz0, hzc⟩ := zeroT_some hz
  have es : sizeT P e = i.size := by simp [sizeT, hi]
  have eb : bytesT P e = i.bytes := by simp [bytesT, hi]
  have hzs : z.cells.size = i.size := by rw [← es, ← hzt, ← hzc, Array.length_toList]
  rw [es] at hpos ha
  rw [eb] at hby ha
  unfold aappend at ha
  split at ha
  case h_2 => cases ha
  rename_i base n ce k hk
  split at ha
  · cases ha
  rename_i new hnew
  split at ha
  · cases ha
  rename_i hc
  have hone : new.all oneCell = true := by
    cases hq : new.all oneCell with
    | true => rfl
    | false => exact absurd (.inl hq) hc
  have hroom : (n + k) * i.bytes ≤ 140737488355328 := by
    have : ¬ room < (n + k) * i.bytes := fun hh => hc (.inr hh)
    simp only [room] at this
    omega
  obtain ⟨news, hr, hnl, hfirst, hlen⟩ := asrc_sound (P := P) s hy hk (Nat.le_refl _) hnew
  have hsrc : Go.Src P i.size tx y' k news w := ⟨htx, hlen, hfirst w rfl, hfirst w.drew rfl, hnl, ones hr hone⟩
  split at ha
  · -- no block yet
    split at ha
    · rename_i hz1
      obtain ⟨rfl, rfl⟩ := hz1
      obtain ⟨_, _, rfl⟩ := hx.sl_none
      split at ha
      · rename_i hk0
        subst hk0
        simp only [Option.some.injEq, Prod.mk.injEq] at ha
        obtain ⟨rfl, rfl⟩ := ha
        refine ⟨ρ, .slice none 0 0, w, ?_, Rho.le.refl _, s, .flat rfl, Nat.le_refl _, Nat.le_refl _, names_same⟩
        rcases htx with ⟨e', hk'⟩ | hk' <;> simp [Builtin.append_, run_underlying ht, run_underlying hk', sizeOf, typeInfo, hi, hlen, hsrc.cells]
      · rename_i hk0
        simp only [Option.some.injEq, Prod.mk.injEq] at ha
        obtain ⟨rfl, rfl⟩ := ha
        have hg := grow_sound (P := P) (ty := ty) s ht hi hz0 hzs (base := none) (n := 0) (c' := 0) (old := []) (olds := []) (new := new) (hh := view (anew H new)) (lo := 0) (run_firstCells_none w.drew i.size 0 0 0) .nil (by simp) hsrc hr (by omega) hroom hby
          (fun b p hb => by rw [anew_eq, view_push, setB_ne _ _ (by have := s.dom b p hb; omega)]; exact weak_refl _) (by rw [anew_eq, view_push, setB_same]; rfl)
        obtain ⟨ρ', v', w', h1, h2, h3, h4, h5, h6, h7⟩ := hg
        have hsize : Vec.size (anew H new) = Vec.size H + 1 := Vec.size_push _ _
        refine ⟨ρ', v', w', h1, h2, ⟨h3, fun b p hb => by rw [hsize]; exact h4 b p hb⟩, ?_, by omega, h6, h7⟩
        simpa using h5
    · cases ha
  · rename_i b off
    obtain ⟨b', o', cb, co, hq, hρ, hv⟩ := hx.sl_some rfl
    cases hq
    split at ha
    · -- there is room, surely
      rename_i hfit
      split at ha
      · rename_i H1 hput
        simp only [Option.some.injEq, Prod.mk.injEq] at ha
        obtain ⟨rfl, rfl⟩ := ha
        rcases hv with ⟨c', rfl, hcc, hex, hlim⟩ | ⟨rfl, hce, o2, c', rfl, hex⟩
        · obtain ⟨g1, g2, g3, g4, g5, g6, g7⟩ := put_sound (P := P) s hρ hr hput
          have hrun := run_append_room_src w t tx ty e i ht hi cb (co + off) n c' y' k news hsrc (by omega)
            (by simpa [Nat.add_assoc] using g1) (by simpa [Nat.add_assoc] using g2)
          refine ⟨ρ, _, _, hrun, Rho.le.refl _, by simpa [Nat.add_assoc] using g5, VRel.mk_sl hρ hcc hex hlim, by omega, ?_, names_same⟩
          rw [Nat.add_assoc, g7]
          exact Nat.le_refl _
        · have hk0 : k = 0 := by omega
          subst hk0
          have hnews : news = [] := List.eq_nil_of_length_eq_zero (by rw [hnl]; simp)
          have hnew0 : new = [] := List.eq_nil_of_length_eq_zero (by rw [hr.length, hnews]; rfl)
          subst hnews; subst hnew0
          obtain ⟨cs, lo, hb, hlo, hle, _, rfl⟩ := aput_some hput
          have hrun := run_append_room_src w t tx ty e i ht hi cb o2 0 c' y' 0 [] hsrc (by omega) (by simp) (by simp)
          refine ⟨ρ, _, _, hrun, Rho.le.refl _, ⟨?_, fun i p hi => by rw [Vec.size_set]; exact s.dom i p hi⟩, .slz hρ (by omega) hex, by rw [Vec.size_set]; exact Nat.le_refl _, Nat.le_refl _, names_same⟩
          rw [splice_nil, view_self hb]
          exact s.st
      · cases ha
    · rename_i hfit
      split at ha
      · cases ha
      rename_i hk0
      split at ha
      case h_2 => cases ha
      rename_i cs wr lo hb
      have hvb := view_some hb
      split at ha
      case isFalse => cases ha
      rename_i hle
      -- what the old one holds
      have hsize : ∀ (H0 : AH V) (B : Blk), Vec.size H0 = Vec.size H → Vec.size (Vec.push H0 B) = Vec.size H + 1 := fun H0 B hq => by rw [Vec.size_push, hq]
      have hidne : Vec.size H ≠ b := by have := s.dom b _ hρ; omega
      have hrange : ∃ olds, VRels ρ ((cs.drop off).take (n * i.size)) olds ∧ olds.length = n * i.size ∧ (Builtin.firstCells i.size n x').run P w.drew = .ok olds.toArray w.drew := by
        rcases hv with ⟨c', rfl, _, _, _⟩ | ⟨rfl, _, o2, c', rfl, _⟩
        · obtain ⟨cs', h1, h2, h3⟩ := s.st.range hvb hρ hle
          exact ⟨cs', h1, h2, run_firstCells_some w.drew i.size n _ n c' cs' h2 fun j u hj => by rw [add_mk]; exact h3 j u hj⟩
        · exact ⟨[], by simp only [Nat.zero_mul, List.take_zero]; exact .nil, by simp, run_firstCells_some w.drew i.size 0 _ 0 c' [] (by simp) (by simp)⟩
      obtain ⟨olds, ho, hol, hfo⟩ := hrange
      split at ha
      · -- just so many
        rename_i hodd
        simp only [Option.some.injEq, Prod.mk.injEq] at ha
        obtain ⟨rfl, rfl⟩ := ha
        have hc' : ∃ bs c', x' = .slice bs n c' ∧ c' < n + k := by
          rcases hv with ⟨c', rfl, _, hex, _⟩ | ⟨rfl, _, o2, c', rfl, hex⟩
          · exact ⟨_, _, rfl, by rw [hex hodd]; omega⟩
          · exact ⟨_, _, rfl, by rw [hex (by omega)]; omega⟩
        obtain ⟨bs, c', rfl, hg⟩ := hc'
        obtain ⟨ρ', v', w', h1, h2, h3, h4, h5, h6, h7⟩ := grow_sound (P := P) (ty := ty) s ht hi hz0 hzs (hh := view (anew H ((cs.drop off).take (n * i.size) ++ new))) (lo := 0) hfo ho hol hsrc hr hg hroom hby
          (fun b p hb => by rw [anew_eq, view_push, setB_ne _ _ (by have := s.dom b p hb; omega)]; exact weak_refl _) (by rw [anew_eq, view_push, setB_same])
        have hsz := hsize H (.arr ((cs.drop off).take (n * i.size) ++ new) true 0) rfl
        exact ⟨ρ', v', w', h1, h2, ⟨h3, fun b p hb => by rw [anew_eq, hsz]; exact h4 b p hb⟩, h5, by rw [anew_eq, hsz]; omega, h6, h7⟩
      rename_i hodd
      split at ha
      · cases ha
      rename_i hcond
      have q1 : ¬ ce = 0 := fun hh => hcond (.inl hh)
      have q2 : wr = true := by
        cases hq : wr with
        | true => rfl
        | false => exact absurd (.inr (.inl hq)) hcond
      have q3 : off = 0 := Classical.byContradiction fun hh => hcond (.inr (.inr (.inl hh)))
      have q4 : n = ce / 2 := Classical.byContradiction fun hh => hcond (.inr (.inr (.inr (.inl hh))))
      have q5 : n * i.size = cs.length := Classical.byContradiction fun hh => hcond (.inr (.inr (.inr (.inr hh))))
      subst q2; subst q3
      have hcs : (cs.drop 0).take (n * i.size) = cs := by rw [q5, List.drop_zero, List.take_length]
      rcases hv with ⟨c', rfl, hcc, hex, hlim⟩ | ⟨hn0, hce, _⟩
      case inr => omega
      obtain ⟨sz, cA, eA, fA, hl1, hl2, hl3⟩ := s.st.lim b _ cs lo hρ hvb
      have hXcb : X cb = none := by
        have hbk := s.st.blk b _ hρ
        rw [hvb] at hbk
        obtain ⟨_, _, _, _, _, _, h4⟩ := hbk
        exact (h4 rfl).1
      have hreach := hlim (by omega) rfl _ _ hl1 i.size (by rw [← q4]; exact q5)
      rw [hcs] at ha ho
      -- both ways to the same
      have both : ∀ (Bo : Blk) (lo' : Nat), (Bo = .dead ∨ (Bo = .arr cs false 0 ∧ cs.length ≤ lo')) → lo ≤ lo' → lo ≤ cs.length →
          ∃ ρ' v' w', (Builtin.append_ #[t, tx] ty #[.slice (some ⟨cb, co + 0, none⟩) n c', y']).run P w = .ok v' w' ∧ Did P X w0 ρ H (Vec.push (Vec.set H b Bo) (.arr (cs ++ new) true lo')) w (.slice (some ⟨Vec.size H, 0, none⟩) (n + k) (2 * (n + k))) ρ' v' w' := by
        intro Bo lo' hBo hlo hloc
        have hview : view (Vec.push (Vec.set H b Bo) (.arr (cs ++ new) true lo')) = setB (setB (view H) b Bo) (Vec.size H) (.arr (cs ++ new) true lo') := by rw [view_push, view_set hb, Vec.size_set]
        have hsz := hsize (Vec.set H b Bo) (.arr (cs ++ new) true lo') (Vec.size_set _ _ _)
        by_cases hg : c' < n + k
        · obtain ⟨ρ', v', w', h1, h2, h3, h4, h5, h6, h7⟩ := grow_sound (P := P) (ty := ty) s ht hi hz0 hzs (hh := view (Vec.push (Vec.set H b Bo) (.arr (cs ++ new) true lo'))) (lo := lo') hfo ho hol hsrc hr hg hroom hby
            (fun b1 p hb1 => by
              rw [hview, setB_ne _ _ (by have := s.dom b1 p hb1; omega)]
              by_cases e1 : b1 = b
              · subst e1
                rw [setB_same, hvb]
                rcases hBo with rfl | ⟨rfl, _⟩
                · exact .inr (.inl rfl)
                · exact .inr (.inr ⟨_, _, _, _, rfl, rfl⟩)
              · rw [setB_ne _ _ e1]; exact weak_refl _) (by rw [hview, setB_same])
          exact ⟨ρ', v', w', h1, h2, ⟨h3, fun b p hb => by rw [hsz]; exact h4 b p hb⟩, h5, by rw [hsz]; omega, h6, h7⟩
        · have hnk : (n + k) * i.size ≤ c' * i.size := Nat.mul_le_mul_right _ (by omega)
          have hnk' : (n + k) * i.size = cs.length + news.length := by rw [Nat.add_mul, q5, hnl]
          have hlr := hr.length
          have hre := s.st.regrow hvb hρ s.fresh hl1 hBo hlo hloc hr (by omega)
          rw [← hview] at hre
          have hrun := run_append_room_src w t tx ty e i ht hi cb (co + 0) n c' y' k news hsrc (by omega)
            (fun j hj => by rw [q5]; exact (s.st.there hvb hρ hl2 (by omega)).1) (fun j hj => by rw [q5]; exact (s.st.there hvb hρ hl2 (by omega)).2)
          rw [q5, Nat.add_zero] at hrun
          refine ⟨_, _, _, hrun, Rho.le_upd _ _ s.fresh, ⟨hre, fun b1 p hb1 => ?_⟩, ?_, by rw [hsz]; omega, by rw [(setCells_rest cb news (co + cs.length) w).2.2.2]; exact Nat.le_refl _, names_upd hXcb⟩
          · rw [hsz]
            by_cases e1 : b1 = Vec.size H
            · omega
            · rw [Rho.upd_ne ρ _ _ e1] at hb1
              have := s.dom b1 p hb1
              omega
          · refine .sl (e := 0) (co := co) (o := 0) (Rho.upd_same _ _ _ _) (by omega) (by omega) (by omega) (fun _ _ L sz1 hL size hc => ?_)
            rw [Rho.lim_same] at hL
            cases hL
            have h0 : 0 < n + k := by omega
            have : size = i.size := Nat.eq_of_mul_eq_mul_left h0 (by rw [hc, hnk']; omega)
            subst this
            exact hreach
      split at ha
      · rename_i hsh
        simp only [Option.some.injEq, Prod.mk.injEq] at ha
        obtain ⟨rfl, rfl⟩ := ha
        exact both (.arr cs false 0) (n * i.size) (.inr ⟨rfl, by omega⟩) (by omega) hsh.2
      · split at ha
        · rename_i hlo0
          simp only [Option.some.injEq, Prod.mk.injEq] at ha
          obtain ⟨rfl, rfl⟩ := ha
          exact both .dead 0 (.inl rfl) (by omega) (by omega)
        · cases ha
  · cases ha

theorem copy_sound (s : Now P X w0 ρ H w) {t tx ty e : TypeId} (ht : P.underlying t = some (.slice e)) (hie : (P.info? e).isSome = true) {x x' y y' : Value} (hx : VRel ρ x x') (hy : VRel ρ y y')
    (ha : acopy (sizeT P e) H x y = some (v, H')) :
    ∃ ρ' v' w', (Builtin.copy_ #[t, tx] ty #[x', y']).run P w = .ok v' w' ∧ Did P X w0 ρ H H' w v ρ' v' w' := by
  obtain ⟨i, hi⟩ := Option.isSome_iff_exists.1 hie
  have es : sizeT P e = i.size := by simp [sizeT, hi]
  rw [es] at ha
  unfold acopy at ha
  split at ha
  case h_2 => cases ha
  rename_i base n ce k hk
  split at ha
  · cases ha
  rename_i cells hc
  obtain ⟨news, hr, hnl, hfirst, hlen⟩ := asrc_sound (P := P) s hy hk (Nat.min_le_left _ _) hc
  have hm : Nat.min k n = min k n := rfl
  split at ha
  · simp only [Option.some.injEq, Prod.mk.injEq] at ha
    obtain ⟨rfl, rfl⟩ := ha
    obtain ⟨rfl, rfl, rfl⟩ := hx.sl_none
    refine ⟨ρ, _, w, ?_, Rho.le.refl _, s, .flat rfl, Nat.le_refl _, Nat.le_refl _, names_same⟩
    simp only [Builtin.copy_, Sem.run_bind, List.getElem?_toArray, List.getElem?_cons_zero, List.getElem?_cons_succ, run_underlying ht, Result.andThen_ok, hlen, sizeOf, typeInfo, program, Sem.run, hi, Sem.run_pure, hm, hfirst w rfl, goInt]
  · rename_i b off
    obtain ⟨b', o', cb, co, hq, hρ, hv⟩ := hx.sl_some rfl
    cases hq
    split at ha
    · rename_i hm0
      simp only [Option.some.injEq, Prod.mk.injEq] at ha
      obtain ⟨rfl, rfl⟩ := ha
      have hnews : news = [] := List.eq_nil_of_length_eq_zero (by rw [hnl, hm0]; simp)
      subst hnews
      refine ⟨ρ, .int .i64 0, w, ?_, Rho.le.refl _, s, .flat rfl, Nat.le_refl _, Nat.le_refl _, names_same⟩
      have hz : ∀ a : Addr, (storeCells a ([] : List Value)).run P w = .ok () w := fun a => rfl
      have hf := hfirst w rfl
      rw [hm0] at hf
      rcases hv with ⟨c', rfl, _⟩ | ⟨rfl, _, o2, c', rfl, _⟩
      · simp only [Builtin.copy_, Sem.run_bind, List.getElem?_toArray, List.getElem?_cons_zero, List.getElem?_cons_succ, run_underlying ht, Result.andThen_ok, hlen, sizeOf, typeInfo, program, Sem.run, hi, Sem.run_pure, hm, hm0, hf, hz, goInt]
        rfl
      · simp only [Builtin.copy_, Sem.run_bind, List.getElem?_toArray, List.getElem?_cons_zero, List.getElem?_cons_succ, run_underlying ht, Result.andThen_ok, hlen, sizeOf, typeInfo, program, Sem.run, hi, Sem.run_pure, hm, hm0, hf, hz, goInt]
        rfl
    · rename_i hm0
      split at ha
      · rename_i H1 hput
        simp only [Option.some.injEq, Prod.mk.injEq] at ha
        obtain ⟨rfl, rfl⟩ := ha
        obtain ⟨g1, g2, g3, g4, g5, g6, g7⟩ := put_sound (P := P) s hρ hr hput
        have hf := hfirst w rfl
        rcases hv with ⟨c', rfl, _⟩ | ⟨rfl, _, o2, c', rfl, _⟩
        · refine ⟨ρ, _, _, ?_, Rho.le.refl _, g5, .flat rfl, by omega, by omega, names_same⟩
          simp only [Builtin.copy_, Sem.run_bind, List.getElem?_toArray, List.getElem?_cons_zero, List.getElem?_cons_succ, run_underlying ht, Result.andThen_ok, hlen, sizeOf, typeInfo, program, Sem.run, hi, Sem.run_pure, hm, hf, g4, goInt]
        · omega
      · cases ha
  · cases ha
end
end Go.Proofs.Ytdbehmepikhghaa.AM
