/- Queues: lists cut at their heads, and put into order by slices.Insert. Steps with queues; a list that is copied within itself. Parts of a list that has no more room. PUT TOGETHER by merge.py. -/
import Derived.Test.YtollibkfagjnaaaPN
import Derived.Test.YtollibkfagjnaaaAMc
set_option linter.unusedVariables false
set_option linter.unusedSimpArgs false
set_option maxRecDepth 10000
namespace Go.Proofs.Ytollibkfagjnaaa.AM
section
variable {V : Type → Type} [Vec V] {E : Env V} {F F' F0 : Nat → Prop} {ρ ρ' ρ0 : PR} {H H' H0 : AH V} {hp hp' hp0 : PH} {ds ds' : List Nat} {T L : List PV} {Ta La : List Value} {inR : Bool} {p : List Nat} {a b c : ACode} {R : AE → List PV → PH → Prop} {st : PS} {dr : Bool} {ops : List AOper} {l0 : Nat} {Q : List PV → PH → Prop}
/-- A queue: a list with no more room (none), or one of which so much was cut off already. -/
def qv (x : Option (List Int)) (l : List Int) (b : Nat) : PV := match x with
  | none => .exv 1 b l.length
  | some pre => .que b pre.length l.length
def qB (x : Option (List Int)) (l : List Int) : PB := match x with
  | none => .vec 1 l.length (rowI .i64 l) false
  | some pre => .vec 1 (pre ++ l).length (rowI .i64 (pre ++ l)) true
/-- The block of what is to be put in. -/
def eB (c : Int) : PB := .vec 1 1 (fun _ => [.s (.int .i64 c)]) true
theorem ins_elem (hr : Rel F ρ hp ds H) {b : Nat} {w : Value} {c : Int} (h : PRel F ρ H (.vec 1 b 1) w) (hb : hp[b]? = some (eB c)) : ∃ a e, ρ b = some (some (a, e)) ∧ ainsE H w = some (a, .int .i64 c) := by
  rcases hr.blk _ _ hb with ⟨_, h0⟩ | ⟨a, ce, vs, r1, r2, r3, r4, r5, r6, r7, r8, r9, r10⟩
  · omega
  · cases h with
    | fr h => cases h
    | vecz hz h0 => omega
    | @vec _ _ _ a' ce' hρ hn =>
      rw [r1] at hρ; cases hρ
      have hl : vs.length = 1 := by rw [r8, ← r7 rfl]
      obtain ⟨v, rfl⟩ := List.length_eq_one_iff.1 hl
      have hv := r10 0 0 (.s (.int .i64 c)) v (by omega) rfl rfl
      cases hv
      refine ⟨a, ce, r1, ?_⟩
      simp only [ainsE, r3]
      rfl
theorem ins_rows {l : List Int} {k : Nat} {c : Int} : (l.take k ++ c :: l.drop k).length = l.length + 1 := by simp; omega
/-- slices.Insert of one number. -/
theorem ins_call {g : FuncId} (hext : ∀ args (H : AH V), E.ext g args H = ains g g args H) (x : Option (List Int)) (l : List Int) {k : Nat} {c : Int} (hk : k ≤ l.length) (hx : x = none → l = []) (hb : (l.length + 1) * 8 ≤ room) :
    PCall E [0, 1] g [qv x l 0, .s (.int .i64 ((k : Nat) : Int)), .vec 1 1 1] [qB x l, eB c] (fun v hp => v = .que 2 0 (l.length + 1) ∧ hp = [.dead, eB c, .vec 1 (l.length + 1) (rowI .i64 (l.take k ++ c :: l.drop k)) true]) := by
  intro F ρ H avs hr ha
  obtain ⟨w0, w1, w2, rfl⟩ : ∃ w0 w1 w2, avs = [w0, w1, w2] := by
    have := ha.len
    match avs, this with
    | [w0, w1, w2], _ => exact ⟨_, _, _, rfl⟩
  have h0 := ha.at' 0 _ w0 rfl rfl
  have h1 := ha.at' 1 _ w1 rfl rfl
  have h2 := ha.at' 2 _ w2 rfl rfl
  obtain rfl : w1 = .int .i64 ((k : Nat) : Int) := by
    cases h1 with
    | fr h => cases h; rfl
  obtain ⟨ae, ee, he1, he2⟩ := ins_elem hr h2 rfl
  -- what the machine does
  obtain ⟨ne, hne⟩ : ∃ ne, (l.take k ++ c :: l.drop k).map (Value.int .i64) = ne := ⟨_, rfl⟩
  have hnl : ne.length = l.length + 1 := by rw [← hne, List.length_map]; exact ins_rows
  have key : ∃ Hd, Vec.size Hd = Vec.size H ∧ ains g g [w0, .int .i64 ((k : Nat) : Int), w2] H = some (.iface 0 (.slice (some ⟨Vec.size H, 0, none⟩) (l.length + 1) 0), anew Hd ne) ∧ (Hd = H ∨ ∃ a e B, ρ 0 = some (some (a, e)) ∧ ([qB x l, eB c] : PH)[0]? = some B ∧ B ≠ .dead ∧ ¬ F a ∧ Hd = Vec.set H a .dead) := by
    cases x with
    | none =>
      obtain rfl := hx rfl
      obtain rfl : k = 0 := by simpa using hk
      have : ne = [Value.int .i64 c] := by rw [← hne]; rfl
      subst this
      refine ⟨H, rfl, ?_, .inl rfl⟩
      cases h0 with
      | fr h => cases h
      | exv h hn => simp only [ains, he2]; rfl
      | exvz h hn => simp only [ains, he2]; rfl
    | some pre =>
      cases h0 with
      | fr h => cases h
      | @que _ _ _ a e hρ =>
        rcases hr.blk 0 _ rfl with ⟨hz, _⟩ | ⟨a', ce, vs, r1, r2, r3, r4, r5, r6, r7, r8, r9, r10⟩
        · rw [hρ] at hz; cases hz
        · rw [hρ] at r1; cases r1
          have hvl : vs.length = pre.length + l.length := by rw [r8, ← r7 rfl, List.length_append, Nat.mul_one]
          have hvs : ∀ j, j < (pre ++ l).length → vs[j]? = some (.int .i64 ((pre ++ l).getD j 0)) := fun j hj => by
            have hj' : j < vs.length := by rw [hvl, ← List.length_append]; exact hj
            have := r10 j 0 (.s (.int .i64 ((pre ++ l).getD j 0))) vs[j] hj rfl (by rw [Nat.mul_one, Nat.add_zero]; exact List.getElem?_eq_getElem hj')
            rw [List.getElem?_eq_getElem hj']
            generalize vs[j] = u at this
            cases this
            rfl
          have hd : vs.drop pre.length = l.map (Value.int .i64) := by
            apply List.ext_getElem?
            intro j
            rw [List.getElem?_drop, List.getElem?_map]
            by_cases hj : j < l.length
            · rw [hvs _ (by rw [List.length_append]; omega), List.getD_eq_getElem?_getD, List.getElem?_append_right (by omega), Nat.add_sub_cancel_left, List.getElem?_eq_getElem hj]; rfl
            · rw [List.getElem?_eq_none (by omega), List.getElem?_eq_none (by omega)]; rfl
          have hnea : ae ≠ a := fun e0 => by
            subst e0
            have := hr.inj 1 0 _ _ ae _ _ rfl rfl (by simp [eB]) (by simp [qB]) he1 hρ
            cases this
          refine ⟨Vec.set H a .dead, Vec.size_set .., ?_, .inr ⟨a, _, _, hρ, rfl, by simp [qB], r2, rfl⟩⟩
          have hall : (vs.drop pre.length).all oneCell = true := by rw [hd]; simp [oneCell]
          have hkd : vs.drop (pre.length + k) = (l.drop k).map (Value.int .i64) := by rw [← List.drop_drop, hd, List.map_drop]
          simp only [ains, he2, if_true, r3]
          rw [if_pos ⟨rfl, by omega⟩, if_pos ⟨⟨hvl, by omega⟩, ⟨hb, hnea⟩, hall⟩, Int.toNat_natCast, hd, hkd, ← hne, ← List.map_take, List.map_append, List.map_cons]
  obtain ⟨Hd, hs, hrun, hdead⟩ := key
  refine runs_done (r := ⟨.norm, [], anew Hd ne, [], .iface 0 (.slice (some ⟨Vec.size H, 0, none⟩) (l.length + 1) 0)⟩) (fun rec => ?_) ?_
  · show sExt (E.ext g _ H) _ = _
    rw [hext, hrun]; rfl
  -- the relation behind it
  have hr1 : Rel F ρ [.dead, eB c] [] H := rel_kill hr 0
  have hkeep : ∀ a, a < Vec.size H → ¬ Free F ρ [.dead, eB c] [] a → Vec.get (anew Hd ne) a = Vec.get H a := fun a ha hnf => by
    rw [get_anew_lt (by rw [hs]; exact ha)]
    rcases hdead with rfl | ⟨a', e, B, q1, q2, q3, q4, rfl⟩
    · rfl
    · exact get_set_ne fun x => hnf (x ▸ free_of hr q2 q3 q1 q4)
  have hgn : Vec.get (anew Hd ne) (Vec.size H) = some (.arr ne true 0) := by rw [← hs]; exact get_anew_same _ _
  have hst : Step F ρ [] H (ρ.upd 2 (some (Vec.size H, 2 * (l.length + 1)))) ([.dead, eB c] ++ [.vec 1 (l.length + 1) (rowI .i64 (l.take k ++ c :: l.drop k)) true]) (anew Hd ne) := by
    refine rel_push (hp := [.dead, eB c]) hr1 (by rw [size_anew, hs]; omega) hkeep (fun a' e h => by cases h; exact ⟨by rw [size_anew, hs]; omega, .inl (Nat.le_refl _)⟩) fun hle hl => ?_
    refine .inr ⟨Vec.size H, 2 * (l.length + 1), ne, PR.upd_same _ _ _, nf hr, hgn, fun v hv => ?_, by omega, by omega, fun _ => by omega, by rw [hnl]; omega, fun _ _ => rfl, fun i j cc v hi h3 h4 => ?_⟩
    · rw [← hne] at hv
      obtain ⟨z, _, rfl⟩ := List.mem_map.1 hv
      rfl
    · have hj : j = 0 := by
        have := (List.getElem?_eq_some_iff.1 h3).1
        simpa [rowI] using this
      subst hj
      rw [Nat.mul_one, Nat.add_zero, ← hne, List.getElem?_map] at h4
      simp only [rowI, List.getElem?_cons_zero, Option.some.injEq] at h3
      subst h3
      have hi' : i < (l.take k ++ c :: l.drop k).length := by rw [ins_rows]; exact hi
      rw [List.getElem?_eq_getElem hi'] at h4
      simp only [Option.map_some, Option.some.injEq] at h4
      subst h4
      rw [List.getD_eq_getElem?_getD, List.getElem?_eq_getElem hi']
      exact .s _
  refine ⟨F, _, _, .que 2 0 (l.length + 1), hst.ext, fun b y hb h => ?_, hst.rel, .que (PR.upd_same _ _ _), rfl, rfl⟩
  have : b = 0 ∨ b = 1 := by simpa using hb
  rw [PR.upd_ne (by omega)]; exact h
end
end Go.Proofs.Ytollibkfagjnaaa.AM

namespace Go.Proofs.Ytollibkfagjnaaa.AM
section
variable {V : Type → Type} [Vec V] {E : Env V} {F F' F0 : Nat → Prop} {ρ ρ' ρ0 : PR} {H H' H0 : AH V} {hp hp' hp0 : PH} {ds ds' : List Nat} {T L : List PV} {Ta La : List Value} {inR : Bool} {p : List Nat} {a b c : ACode} {R : AE → List PV → PH → Prop} {st : PS} {dr : Bool} {ops : List AOper} {l0 : Nat} {Q : List PV → PH → Prop}
/-- A list of one number, with no more room. -/
theorem prg_mkarrx {x : Src} {c : Int} {lo cnt : Nat} {O : List Bool} {md : List Nat} (hx : psev T L x = some (.s (.int .i64 c))) (hk : PRg E p dr T ops l0 ⟨.exv 1 hp.length 1 :: L, false :: O, hp ++ [eB c], md, cnt⟩ Q) : PRg E p dr T (⟨.mkarr 1 [(.int .i64 0)] [(0, 1, x)], none, lo⟩ :: ops) l0 ⟨L, O, hp, md, cnt⟩ Q := by
  intro F0 ρ0 hp0 H0 F ρ H ds Ta La sn hr hd
  have hev := sev_ok (hd.T.mono hd.fle hd.rle) hd.L
  have ex := s_of hev hx
  have st : Step F ρ ds H (ρ.upd hp.length (some (Vec.size H, 3))) (hp ++ [eB c]) (anew H [.int .i64 c]) := rel_new hr fun hle hl => by
    refine .inr ⟨_, _, [.int .i64 c], PR.upd_same _ _ _, nf hr, get_anew_same _ _, fun v hv => by rw [List.mem_singleton] at hv; rw [hv]; rfl, by decide, by decide, fun _ => rfl, rfl, fun _ _ => rfl, fun i j cc v hi h3 h4 => ?_⟩
    have hj : j = 0 := by
      have := (List.getElem?_eq_some_iff.1 h3).1
      simpa using this
    have hi0 : i = 0 := by omega
    subst hj; subst hi0
    cases h3
    cases h4
    exact .s _
  have sb : Stab [] ρ hp H (anew H [.int .i64 c]) := stab_new hr _ _
  refine prg_does hr hd rfl (does_op (.slice (some ⟨Vec.size H, 0, none⟩) 1 3) (anew H [.int .i64 c]) ?_ ⟨F, _, .exv 1 hp.length 1, _, st.ext, st.le, st.rel, .exv (PR.upd_same _ _ _) (by decide), false, md, fun _ h => h, (fun h => nomatch h), fun b B a e' q1 q2 q3 q4 => sb b B a e' q1 q2 (fun x => nomatch x) q4, fun b B q1 q2 q3 => ?_, (fun _ => rfl), hk⟩)
  · simp only [aexec, xMkarr, xParts, ex]
    rfl
  · rw [List.getElem?_append_left (List.getElem?_eq_some_iff.1 q3).1]
    exact q3
/-- A queue without its head. -/
theorem prg_qcut {x : Option (List Int)} {l : List Int} {c : Int} {b lo cnt : Nat} {s lS : Src} {O : List Bool} {md : List Nat} (hs : psev T L s = some (qv x (c :: l) b)) (hl : psev T L lS = some (.s (.int .i64 1))) (hx : x = none → l = []) (hk : PRg E p dr T ops l0 ⟨qv (x.map (· ++ [c])) l b :: L, false :: O, hp, md, cnt⟩ Q) : PRg E p dr T (⟨.slice 1 s (some lS) none none, none, lo⟩ :: ops) l0 ⟨L, O, hp, md, cnt⟩ Q := by
  intro F0 ρ0 hp0 H0 F ρ H ds Ta La sn hr hd
  have hev := sev_ok (hd.T.mono hd.fle hd.rle) hd.L
  obtain ⟨w, h1, h2⟩ := hev _ _ hs
  have el := s_of hev hl
  have hxc : xCut (asliceV 1) (sev Ta La) s (some lS) none none = asliceV 1 w (some (.int .i64 1)) none none := by simp only [xCut, h1, xo, el]
  have key : ∃ u, asliceV 1 w (some (.int .i64 1)) none none = some u ∧ PRel F ρ H (qv (x.map (· ++ [c])) l b) u := by
    cases x with
    | none =>
      obtain rfl := hx rfl
      cases h2 with
      | fr h => cases h
      | exvz h hn => cases hn
      | @exv _ _ _ a ce h hn =>
        refine ⟨.slice (some ⟨a, 0, none⟩) 0 1, ?_, .exv h (Nat.zero_le _)⟩
        show asliceV 1 (.slice (some ⟨a, 0, none⟩) 1 3) (some (.int .i64 1)) none none = _
        simp [asliceV, asliceS, aoptb, abound, acut]
    | some pre =>
      cases h2 with
      | fr h => cases h
      | @que _ _ _ a ce h =>
        refine ⟨.iface 0 (.slice (some ⟨a, pre.length + 1, none⟩) l.length 0), ?_, ?_⟩
        · have : aoptb (some (.int .i64 1)) 0 (c :: l).length = some 1 := by
            show abound (.int .i64 1) (l.length + 1) = some 1
            show (if 0 ≤ (1 : Int) ∧ (1 : Int) ≤ ((l.length + 1 : Nat) : Int) then some (Int.toNat 1) else none) = some 1
            rw [if_pos ⟨by omega, by omega⟩]; rfl
          simp only [asliceV, this]
          rfl
        · show PRel F ρ H (.que b (pre ++ [c]).length l.length) _
          rw [List.length_append]
          exact .que h
  obtain ⟨u, k1, k2⟩ := key
  refine prg_does hr hd rfl (does_op u H ?_ ⟨F, ρ, _, hp, .refl, fun _ _ h => h, hr, k2, false, md, fun _ h => h, (fun h => nomatch h), fun _ _ _ _ _ _ _ _ => rfl, fun _ _ _ _ h => h, (fun _ => rfl), hk⟩)
  show withH H (xCut (asliceV 1) (sev Ta La) s (some lS) none none) = _
  rw [hxc, k1]
  rfl
theorem qv_sub {σ : Sig} {fz : List Nat} {x : Option (List Int)} {l : List Int} {b b' : Nat} (h : σ[b']? = some (some b)) : VSub1 σ fz hp (qv x l b) (qv x l b') := by
  cases x with
  | none => exact .exv h rfl
  | some pre => exact .que h rfl rfl
theorem asrc_le {sz k m : Nat} {w : Value} {new : List Value} (h : asrc H sz k w = some new) (hm : m ≤ k) : asrc H sz m w = some (new.take (m * sz)) := by
  have hms := Nat.mul_le_mul_right sz hm
  unfold asrc at h ⊢
  split at h
  · split at h
    · next cs e =>
      split at h
      · next hl =>
        cases h
        rw [if_pos (by omega), List.take_take, Nat.min_eq_left hms]
      · cases h
    · cases h
  · split at h
    · next h0 => cases h; rw [if_pos (by omega)]; simp
    · cases h
  · split at h
    · next h0 => cases h; rw [if_pos (by omega)]; simp
    · cases h
  · split at h
    · next h0 => cases h; subst h0; rw [if_pos rfl, Nat.mul_one, ← List.map_take, List.take_take, Nat.min_eq_left hm]
    · cases h
  · cases h
/-- Numbers copied into a list of one's own from i on, out of what is told by g. -/
theorem prg_copy1 {d s : Src} {b n i m k lo cnt : Nat} {O : List Bool} {md : List Nat} {dv : PV} {f g : Nat → List PV} {full : Bool} {q : Prop} (hd' : psev T L d = some dv) (hdv : dv = .sub 1 b i m ∨ dv = .exv 1 b m ∧ i = 0) (hb : hp[b]? = some (.vec 1 n f full)) (hn : i + m ≤ n) (hs : psrc hp 1 (psev T L s) = some (k, g, q)) (hq : q) (hg : ∀ j, j < min k m → ∃ z, g j = [.s z] ∧ oneCell z = true)
    (hk : ∀ md' cnt', PRg E p dr T ops l0 ⟨.s (.int .i64 ((min k m : Nat) : Int)) :: L, false :: O, hp.set b (.vec 1 n (fun j => if i ≤ j ∧ j < i + min k m then g (j - i) else f j) full), md', cnt'⟩ Q) (hn0 : 0 < n) (hm0 : 0 < min k m) : PRg E p dr T (⟨.copy 1 d s, none, lo⟩ :: ops) l0 ⟨L, O, hp, md, cnt⟩ Q := by
  intro F0 ρ0 hp0 H0 F ρ H ds Ta La sn hr hd
  have hev := sev_ok (hd.T.mono hd.fle hd.rle) hd.L
  obtain ⟨w, new, s1, s2, s3, s4⟩ := src_ok hr hev hs hq
  obtain ⟨dw, d1, d2⟩ := hev _ _ hd'
  rcases hr.blk b _ hb with ⟨_, h0⟩ | ⟨a, ce, vs, r1, r2, r3, r4, r5, r6, r7, r8, r9, r10⟩
  · omega
  have hdw : ∃ ce', dw = .slice (some ⟨a, i, none⟩) m ce' := by
    rcases hdv with rfl | ⟨rfl, rfl⟩
    · cases d2 with
      | fr h => cases h
      | subz h h0 => omega
      | sub h ho hl hn' =>
        rw [r1] at h; cases h
        rcases ho with ho | ho
        · omega
        · rw [Nat.mul_one] at ho; subst ho; exact ⟨_, rfl⟩
    · cases d2 with
      | fr h => cases h
      | exvz h h0 => omega
      | exv h hn' => rw [r1] at h; cases h; exact ⟨_, rfl⟩
  obtain ⟨ce', rfl⟩ := hdw
  obtain ⟨cn, hcn⟩ : ∃ cn, min k m = cn := ⟨_, rfl⟩
  have hck : cn ≤ k := by omega
  have hcm : cn ≤ m := by omega
  rw [hcn] at hk hg hm0
  have s5 := asrc_le s3 hck
  have hnl : (new.take (cn * 1)).length = cn := by rw [List.length_take, s4.len]; omega
  have hvl : vs.length = ce / 2 := by rw [r8, Nat.mul_one]
  have hfit : i + (new.take (cn * 1)).length ≤ vs.length := by rw [hnl]; omega
  have hone : ∀ u, u ∈ new.take (cn * 1) → oneCell u = true := fun u hu => s4.one u (List.mem_of_mem_take hu)
  have st := rel_set (Y := .arr (splice vs i (new.take (cn * 1))) true 0) (B' := .vec 1 n (fun j => if i ≤ j ∧ j < i + cn then g (j - i) else f j) full) hr hb (by simp) r1 r2 r3 fun hle hgt => .inr ⟨a, ce, _, r1, r2, hgt, splice_one r4 hone, r5, r6, r7, by rw [splice_length]; exact r8, fun j hj => by
    show (if i ≤ j ∧ j < i + cn then g (j - i) else f j).length = 1
    split
    · exact s4.each _ (by omega)
    · exact r9 j hj, fun j jj cc v hj h3 h4 => by
    replace h3 : (if i ≤ j ∧ j < i + cn then g (j - i) else f j)[jj]? = some cc := h3
    have hlen : (if i ≤ j ∧ j < i + cn then g (j - i) else f j).length = 1 := by
      split
      · exact s4.each _ (by omega)
      · exact r9 j hj
    have hjj : jj = 0 := by have := (List.getElem?_eq_some_iff.1 h3).1; omega
    subst hjj
    rw [splice_get _ _ _ _ hfit, hnl, Nat.mul_one, Nat.add_zero] at h4
    by_cases w1 : i ≤ j ∧ j < i + cn
    · rw [if_pos w1] at h3 h4
      rw [List.getElem?_take, if_pos (by omega)] at h4
      exact (s4.cell (j - i) 0 cc v (by omega) h3 (by rw [Nat.mul_one, Nat.add_zero]; exact h4)).mono hle
    · rw [if_neg w1] at h3 h4
      exact (r10 j 0 cc v hj h3 (by rw [Nat.mul_one, Nat.add_zero]; exact h4)).mono hle⟩
  have sb := stab_set (X := .arr (splice vs i (new.take (cn * 1))) true 0) hr hb (by simp) r1
  refine prg_does hr hd rfl (does_op (.int .i64 ((cn : Nat) : Int)) (Vec.set H a (.arr (splice vs i (new.take (cn * 1))) true 0)) ?_ ⟨F, ρ, .s (.int .i64 ((cn : Nat) : Int)), _, st.ext, st.le, st.rel, .fr (.s _), false, b :: md, fun _ h => List.mem_cons_of_mem _ h, (fun h => nomatch h), fun b2 B a2 e' q1 q2 q3 q4 => sb b2 B a2 e' q1 q2 (fun x => q3 (by rw [List.mem_singleton] at x; rw [x]; exact List.mem_cons_self ..)) q4, fun b2 B q1 q2 q3 => ?_, (fun _ => rfl), hk _ _⟩)
  · simp only [aexec, x2, d1, s1, acopy, s2, hcn, s5]
    rw [if_neg (by omega)]
    simp only [aput', r3]
    rw [if_pos ⟨Nat.zero_le _, hfit, List.all_eq_true.2 hone⟩]
  · have hne : b ≠ b2 := fun x => q2 (x ▸ List.mem_cons_self ..)
    rw [List.getElem?_set_ne hne]
    exact q3
end
end Go.Proofs.Ytollibkfagjnaaa.AM

namespace Go.Proofs.Ytollibkfagjnaaa.AM
section
variable {V : Type → Type} [Vec V] {E : Env V} {F F' F0 : Nat → Prop} {ρ ρ' ρ0 : PR} {H H' H0 : AH V} {hp hp' hp0 : PH} {ds ds' : List Nat} {T L : List PV} {Ta La : List Value} {inR : Bool} {p : List Nat} {a b c : ACode} {R : AE → List PV → PH → Prop} {st : PS} {dr : Bool} {ops : List AOper} {l0 : Nat} {Q : List PV → PH → Prop}
/-- What is behind, of a list that has no more room. -/
theorem prg_xlo {b n r lo cnt : Nat} {s lS : Src} {O : List Bool} {md : List Nat} (hs : psev T L s = some (.exv 1 b n)) (hl : psev T L lS = some (.s (.int .i64 ((r : Nat) : Int)))) (hr' : r < n) (hk : PRg E p dr T ops l0 ⟨.sub 1 b r (n - r) :: L, false :: O, hp, md, cnt⟩ Q) : PRg E p dr T (⟨.slice 1 s (some lS) none none, none, lo⟩ :: ops) l0 ⟨L, O, hp, md, cnt⟩ Q := by
  intro F0 ρ0 hp0 H0 F ρ H ds Ta La sn hr hd
  have hev := sev_ok (hd.T.mono hd.fle hd.rle) hd.L
  obtain ⟨w, h1, h2⟩ := hev _ _ hs
  have el := s_of hev hl
  have hxc : xCut (asliceV 1) (sev Ta La) s (some lS) none none = asliceV 1 w (some (.int .i64 ((r : Nat) : Int))) none none := by simp only [xCut, h1, xo, el]
  have key : ∃ u, asliceV 1 w (some (.int .i64 ((r : Nat) : Int))) none none = some u ∧ PRel F ρ H (.sub 1 b r (n - r)) u := by
    cases h2 with
    | fr h => cases h
    | exvz h hn => omega
    | @exv _ _ _ a ce h hn =>
      have hc : (2 * n + 1) / 2 = n := by omega
      have hm : (2 * n + 1) % 2 = 1 := by omega
      refine ⟨.slice (some ⟨a, r, none⟩) (n - r) (2 * (n - r) + 1), ?_, .sub h (.inr (by omega)) (by omega) (by omega)⟩
      have hb : abound (.int .i64 ((r : Nat) : Int)) n = some r := by
        show (if 0 ≤ ((r : Nat) : Int) ∧ ((r : Nat) : Int) ≤ ((n : Nat) : Int) then some (Int.toNat _) else none) = _
        rw [if_pos ⟨by omega, by omega⟩, Int.toNat_natCast]
      unfold asliceV asliceS
      dsimp only [aoptb]
      rw [hc, hb, hm]
      have : ¬ ((none : Option Value).isSome && (none : Option Value).isNone || decide (n < n)) = true := by simp
      rw [if_neg this]
      dsimp only [acut]
      rw [if_neg (by omega)]
      simp [Addr.add, eq_comm]
  obtain ⟨u, k1, k2⟩ := key
  refine prg_does hr hd rfl (does_op u H ?_ ⟨F, ρ, _, hp, .refl, fun _ _ h => h, hr, k2, false, md, fun _ h => h, (fun h => nomatch h), fun _ _ _ _ _ _ _ _ => rfl, fun _ _ _ _ h => h, (fun _ => rfl), hk⟩)
  show withH H (xCut (asliceV 1) (sev Ta La) s (some lS) none none) = _
  rw [hxc, k1]
  rfl
theorem prg_xhi {b n r lo cnt : Nat} {s lS : Src} {O : List Bool} {md : List Nat} (hs : psev T L s = some (.exv 1 b n)) (hl : psev T L lS = some (.s (.int .i64 ((r : Nat) : Int)))) (hr' : r < n) (hk : PRg E p dr T ops l0 ⟨.sub 1 b 0 r :: L, false :: O, hp, md, cnt⟩ Q) : PRg E p dr T (⟨.slice 1 s none (some lS) none, none, lo⟩ :: ops) l0 ⟨L, O, hp, md, cnt⟩ Q := by
  intro F0 ρ0 hp0 H0 F ρ H ds Ta La sn hr hd
  have hev := sev_ok (hd.T.mono hd.fle hd.rle) hd.L
  obtain ⟨w, h1, h2⟩ := hev _ _ hs
  have el := s_of hev hl
  have hxc : xCut (asliceV 1) (sev Ta La) s none (some lS) none = asliceV 1 w none (some (.int .i64 ((r : Nat) : Int))) none := by simp only [xCut, h1, xo, el]
  have key : ∃ u, asliceV 1 w none (some (.int .i64 ((r : Nat) : Int))) none = some u ∧ PRel F ρ H (.sub 1 b 0 r) u := by
    cases h2 with
    | fr h => cases h
    | exvz h hn => omega
    | @exv _ _ _ a ce h hn =>
      have hc : (2 * n + 1) / 2 = n := by omega
      have hm : (2 * n + 1) % 2 = 1 := by omega
      refine ⟨.slice (some ⟨a, 0, none⟩) r (2 * n + 1), ?_, ?_⟩
      · have hb : abound (.int .i64 ((r : Nat) : Int)) n = some r := by
          show (if 0 ≤ ((r : Nat) : Int) ∧ ((r : Nat) : Int) ≤ ((n : Nat) : Int) then some (Int.toNat _) else none) = _
          rw [if_pos ⟨by omega, by omega⟩, Int.toNat_natCast]
        unfold asliceV asliceS
        dsimp only [aoptb]
        rw [hc, hb, hm]
        have : ¬ ((none : Option Value).isSome && (some (Value.int .i64 ((r : Nat) : Int))).isNone || decide (n < n)) = true := by simp
        rw [if_neg this]
        dsimp only [acut]
        rw [if_neg (by omega)]
        simp [Addr.add, eq_comm]
      · exact .sub h (.inr (by omega)) (by omega) (by omega)
  obtain ⟨u, k1, k2⟩ := key
  refine prg_does hr hd rfl (does_op u H ?_ ⟨F, ρ, _, hp, .refl, fun _ _ h => h, hr, k2, false, md, fun _ h => h, (fun h => nomatch h), fun _ _ _ _ _ _ _ _ => rfl, fun _ _ _ _ h => h, (fun _ => rfl), hk⟩)
  show withH H (xCut (asliceV 1) (sev Ta La) s none (some lS) none) = _
  rw [hxc, k1]
  rfl
end
end Go.Proofs.Ytollibkfagjnaaa.AM

