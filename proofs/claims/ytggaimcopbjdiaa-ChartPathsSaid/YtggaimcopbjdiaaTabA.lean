import Derived.Test.YtggaimcopbjdiaaPN
set_option linter.unusedVariables false
set_option linter.unusedSimpArgs false
namespace Go.Proofs.Ytggaimcopbjdiaa.AM
section
variable {V : Type → Type} [Vec V] {E : Env V} {F F' F0 : Nat → Prop} {ρ ρ' ρ0 : PR} {H H' H0 : AH V} {hp hp' hp0 : PH} {ds ds' : List Nat} {T L : List PV} {Ta La : List Value} {inR : Bool} {p : List Nat} {a b c : ACode} {R : AE → List PV → PH → Prop} {st : PS} {dr : Bool} {ops : List AOper} {l0 : Nat} {Q : List PV → PH → Prop}
theorem tab_src (hr : Rel F ρ hp ds H) {b k : Nat} {cs : List PV} {w : Value} (hv : PRel F ρ H (.vec 1 b k) w) (hb : hp[b]? = some (.cel cs)) (hk : cs.length = k) : ∃ vs, alen w = some k ∧ asrc H 1 k w = some vs ∧ (∀ v, v ∈ vs → oneCell v = true) ∧ PRels F ρ H cs vs := by
 obtain ⟨a, e, vs, r1, r2, r3, r4, r5⟩ := hr.blk _ _ hb
 cases hv with
 | fr h => cases h
 | vecz h hn => rw [h] at r1; cases r1
 | vec h hn =>
   rw [h] at r1; cases r1
   refine ⟨vs, rfl, ?_, r4, r5⟩
   have hl := r5.len
   simp only [asrc, arow, r3]
   rw [if_pos (by omega), List.drop_zero, List.take_of_length_le (by omega)]
theorem prg_appcel0 {lo cnt bytes k b' : Nat} {O : List Bool} {md : List Nat} {s x : Src} {gd : Option (Src × Bool)} {cs' : List PV} (hx : psev T L x = some (.vec 1 b' k)) (hb' : hp[b']? = some (.cel cs')) (hlen : cs'.length = k) (hk0 : 0 < k) (hroom : k * bytes ≤ room) (hs : psev T L s = some (.s (.slice none 0 0)))
  (hk : ∀ md' cnt', PRg E p dr T ops l0 ⟨.tbv hp.length k :: L, false :: O, hp ++ [.cel cs'], md', cnt'⟩ Q) (hw : pwanted T L gd = some true := by rfl) : PRg E p dr T (⟨.append false 1 bytes s x, gd, lo⟩ :: ops) l0 ⟨L, O, hp, md, cnt⟩ Q := by
 intro F0 ρ0 hp0 H0 F ρ H ds Ta La sn hr hd
 have hev := sev_ok (hd.T.mono hd.fle hd.rle) hd.L
 obtain ⟨w, w1, w2⟩ := hev _ _ hx
 obtain ⟨vs, v1, v2, ho, hR⟩ := tab_src hr w2 hb' hlen
 have hs' := s_of hev hs
 have hall : vs.all oneCell = true := List.all_eq_true.2 ho
 have hc : ¬ (vs.all oneCell = false ∨ room < (0 + k) * bytes) := by rw [hall]; simp; exact hroom
 have st : Step F ρ ds H (ρ.upd hp.length (some (Vec.size H, 2 * k))) (hp ++ [.cel cs']) (anew H vs) := rel_new hr fun hle hl => ⟨_, _, vs, PR.upd_same _ _ _, nf hr, get_anew_same _ _, ho, hR.mono hle hl⟩
 have sb : Stab [] ρ hp H (anew H vs) := stab_new hr _ _
 refine prg_does hr hd (wanted_ok hev hw) (does_op (.slice (some ⟨Vec.size H, 0, none⟩) k (2 * k)) (anew H vs) ?_ ⟨F, _, .tbv hp.length k, _, st.ext, st.le, st.rel, .tbv (PR.upd_same _ _ _) hk0, false, md, fun _ h => h, (fun h => nomatch h), fun b B a e' q1 q2 q3 q4 => sb b B a e' q1 q2 (fun x => nomatch x) q4, fun b B q1 q2 q3 => ?_, (fun _ => rfl), hk _ _⟩)
 ·simp only [aexec, x2, hs', w1, aappend, v1, v2]
  rw [if_neg hc]
  have : ¬ k = 0 := by omega
  simp [this]
 ·rw [List.getElem?_append_left (List.getElem?_eq_some_iff.1 q3).1]
  exact q3
theorem prg_appcel {lo cnt bytes n k b b' : Nat} {O : List Bool} {md : List Nat} {s x : Src} {gd : Option (Src × Bool)} {cs cs' : List PV} (hx : psev T L x = some (.vec 1 b' k)) (hb' : hp[b']? = some (.cel cs')) (hlen : cs'.length = k) (hk0 : 0 < k) (hroom : (n + k) * bytes ≤ room) (hs : psev T L s = some (.tbv b n)) (hb : hp[b]? = some (.cel cs)) (hn : cs.length = n)
  (hk : ∀ md' cnt', PRg E p dr T ops l0 ⟨.tbv hp.length (n + k) :: L, false :: O, hp.set b .dead ++ [.cel (cs ++ cs')], md', cnt'⟩ Q) (hw : pwanted T L gd = some true := by rfl) : PRg E p dr T (⟨.append false 1 bytes s x, gd, lo⟩ :: ops) l0 ⟨L, O, hp, md, cnt⟩ Q := by
 intro F0 ρ0 hp0 H0 F ρ H ds Ta La sn hr hd
 have hev := sev_ok (hd.T.mono hd.fle hd.rle) hd.L
 obtain ⟨w, w1, w2⟩ := hev _ _ hx
 obtain ⟨vs', v1, v2, ho', hR'⟩ := tab_src hr w2 hb' hlen
 obtain ⟨u, u1, u2⟩ := hev _ _ hs
 obtain ⟨a, e, vs, r1, r2, r3, r4, r5⟩ := hr.blk _ _ hb
 cases u2 with
 | fr h => cases h
 | tbv hρ hn0 =>
 rw [hρ] at r1; cases r1
 have hall : vs'.all oneCell = true := List.all_eq_true.2 ho'
 have hc : ¬ (vs'.all oneCell = false ∨ room < (n + k) * bytes) := by rw [hall]; simp; exact hroom
 have hl := r5.len
 have hfree := free_of hr hb (by simp) hρ r2
 have hr' := rel_kill hr b
 have hlh : (hp.set b .dead).length = hp.length := List.length_set ..
 have hsz : Vec.size (Vec.set H a .dead) = Vec.size H := Vec.size_set ..
 have hkeep : ∀ c, c < Vec.size H → c ≠ a → Vec.get (anew (Vec.set H a .dead) (vs ++ vs')) c = Vec.get H c := fun c hc hca => by
  rw [get_anew_lt (by rw [hsz]; exact hc)]
  exact get_set_ne (Ne.symm hca)
 have hgn : Vec.get (anew (Vec.set H a .dead) (vs ++ vs')) (Vec.size H) = some (.arr (vs ++ vs') true 0) := by rw [← hsz]; exact get_anew_same _ _
 have happ := r5.append hR'
 have st : Step F ρ ds H (ρ.upd hp.length (some (Vec.size H, 2 * (n + k)))) (hp.set b .dead ++ [.cel (cs ++ cs')]) (anew (Vec.set H a .dead) (vs ++ vs')) := by
  rw [← hlh]
  refine rel_push hr' (by rw [size_anew]; omega) (fun c hc hnf => hkeep c hc fun x => hnf (x ▸ hfree)) (fun a' e h => by cases h; exact ⟨by rw [size_anew]; omega, .inl (Nat.le_refl _)⟩) fun hle hl => ?_
  refine ⟨_, _, _, PR.upd_same _ _ _, nf hr, hgn, fun v hv => ?_, happ.mono hle hl⟩
  rcases List.mem_append.1 hv with h | h
  ·exact r4 v h
  ·exact ho' v h
 refine prg_does hr hd (wanted_ok hev hw) (does_op (.slice (some ⟨Vec.size H, 0, none⟩) (n + k) (2 * (n + k))) (anew (Vec.set H a .dead) (vs ++ vs')) ?_ ⟨F, _, .tbv hp.length (n + k), _, st.ext, st.le, st.rel, .tbv (PR.upd_same _ _ _) (by omega), false, b :: md, fun _ h => List.mem_cons_of_mem _ h, (fun h => nomatch h), fun b2 B a2 e2 q1 q2 q3 q4 => ?_, fun b2 B q1 q2 q3 => ?_, (fun _ => rfl), hk _ _⟩)
 ·simp only [aexec, x2, u1, w1, aappend, v1, v2]
  have h1 : ¬ n + k ≤ 2 * n / 2 := by omega
  have h2 : ¬ k = 0 := by omega
  have h3 : ¬ 2 * n % 2 = 1 := by omega
  have h4 : ¬ (2 * n = 0 ∨ true = false ∨ 0 ≠ 0 ∨ n ≠ 2 * n / 2 ∨ n * 1 ≠ vs.length) := by
   rintro (h | h | h | h | h)
   ·omega
   ·cases h
   ·exact h rfl
   ·omega
   ·omega
  rw [if_neg hc, if_neg h1, if_neg h2]
  simp only [r3, Nat.zero_add]
  rw [if_pos (by omega), if_neg h3, if_neg h4]
  have h5 : (vs.drop 0).take (n * 1) = vs := by rw [List.drop_zero, List.take_of_length_le (by omega)]
  rw [h5]
  simp
 ·refine hkeep a2 (hr.own _ _ _ q4) fun x => ?_
  subst x
  have := hr.inj _ _ _ _ _ _ _ q1 hb q2 (by simp) q4 hρ
  subst this
  exact q3 (List.mem_cons_self ..)
 ·have hne : b ≠ b2 := fun x => q2 (x ▸ List.mem_cons_self ..)
  rw [List.getElem?_append_left (by rw [hlh]; exact (List.getElem?_eq_some_iff.1 q3).1), List.getElem?_set_ne hne]
  exact q3
theorem prg_give {fs : Src} {args : List Src} {gd : Option (Src × Bool)} {lo : Nat} {g : FuncId} {first cap vs : List PV} {Qf : PV → PH → Prop} (hc : PCall E [] g (first ++ vs ++ cap) st.hp Qf)
  (hk : ∀ v hp' md' cnt', Qf v hp' → nlv v = true ∧ PRg E p dr T ops l0 ⟨v :: st.L, false :: st.O, st.hp.map (fun _ => PB.dead), md', cnt'⟩ Q) (h1 : psev T st.L fs = some (.fn g first cap) := by rfl) (h2 : pevs (psev T st.L) args = some vs := by rfl) (hw : pwanted T st.L gd = some true := by rfl) : PRg E p dr T (⟨.call fs args, gd, lo⟩ :: ops) l0 st Q := by
 intro F0 ρ0 hp0 H0 F ρ H ds Ta La sn hr hd
 have hev := sev_ok (hd.T.mono hd.fle hd.rle) hd.L
 obtain ⟨fw, f1, f2⟩ := hev _ _ h1
 obtain ⟨ws, w1, w2⟩ := evs_ok hev h2
 cases f2 with
 | fr h => cases h
 | @fn _ _ _ lf lc hl hlr hm hmr =>
 refine prg_does hr hd (wanted_ok hev hw) (does_call f1 w1 ?_)
 have hargs : PRels F ρ H (first ++ vs ++ cap) (lf ++ ws ++ lc) := (PRels.append (PRels.append ⟨hl, hlr⟩ w2) ⟨hm, hmr⟩)
 have hr0 : Rel F ρ st.hp [] H := ⟨hr.fsz, hr.blk, hr.inj, hr.dom, hr.own, (fun d h => nomatch h), List.nodup_nil⟩
 refine (hc F ρ H _ hr0 hargs).mono fun r hg => ?_
 obtain ⟨F', ρ', hp', v, a1, a2, a3, a4, a5⟩ := hg
 obtain ⟨k1, k2⟩ := hk v hp' (List.range st.hp.length ++ st.md) (st.cnt + 1) a5
 have hdead : ∀ b B, (st.hp.map (fun _ => PB.dead))[b]? = some B → B = PB.dead := fun b B h => by
  rw [List.getElem?_map] at h
  cases hq : st.hp[b]? with
  | none => rw [hq] at h; cases h
  | some C => rw [hq] at h; cases h; rfl
 refine ⟨F', ρ, v, st.hp.map (fun _ => PB.dead), ⟨a1.size, a1.fmono, a1.fget, a1.fnew, fun a q1 q2 _ => a1.keep a q1 q2 (fun h => by cases h), fun a h => .inl h, fun d h => .inl h⟩, fun _ _ h => h, ⟨a3.fsz, fun b B h => ?_, fun b b' B B' a e e' g1 g2 d1 d2 q1 q2 => absurd (hdead _ _ g1) d1, fun b hb => hr.dom b (by simpa using hb), fun b a e h => Nat.lt_of_lt_of_le (hr.own b a e h) a1.size, fun d h => ?_, hr.nd⟩, nlv_ok a4 k1, false, List.range st.hp.length ++ st.md, fun m hm => List.mem_append_right _ hm, (fun h => nomatch h), ?_, ?_, (fun _ => rfl), k2⟩
 ·rw [hdead b B h]; trivial
 ·obtain ⟨q1, q2, q3⟩ := hr.dfr d h
  have hdl := Vec.get_lt _ _ _ q1
  refine ⟨(a1.keep d hdl q3 (fun h => by cases h)).trans q1, fun x => ?_, q3⟩
  rcases a1.fnew d x with y | y | y
  ·exact q2 y
  ·exact q3 y
  ·omega
 ·intro b B a e g1 g2 g3 g4
  exact absurd (List.mem_append_left _ (List.mem_range.2 (List.getElem?_eq_some_iff.1 g1).1)) g3
 ·intro b B _ g2 g1
  exact absurd (List.mem_append_left _ (List.mem_range.2 (List.getElem?_eq_some_iff.1 g1).1)) g2
def ov0 : PV := .fzx 1 0 (fun _ => [])
def OwnV (hp : PH) (v : PV) (n : Nat) (rw_ : Nat → List PV) (lo hi : Nat) : Prop := ∃ b full, v = .exv 1 b n ∧ lo ≤ b ∧ b < hi ∧ hp[b]? = some (.vec 1 n rw_ full)
theorem OwnV.keep {v : PV} {n lo hi : Nat} {r : Nat → List PV} (h : OwnV hp v n r lo hi) (hk : ∀ b, lo ≤ b → b < hi → ∀ n f full, hp[b]? = some (.vec 1 n f full) → hp'[b]? = some (.vec 1 n f full)) : OwnV hp' v n r lo hi := by
 obtain ⟨b, full, h1, h2, h3, h4⟩ := h
 exact ⟨b, full, h1, h2, h3, hk b h2 h3 _ _ _ h4⟩
theorem OwnV.app {v : PV} {n lo hi : Nat} {r : Nat → List PV} (h : OwnV hp v n r lo hi) (l : PH) : OwnV (hp ++ l) v n r lo hi := h.keep fun b h1 h2 n f full h => by
 rw [List.getElem?_append_left (List.getElem?_eq_some_iff.1 h).1]; exact h
theorem OwnV.cell {v : PV} {n lo hi : Nat} {r : Nat → List PV} (h : OwnV hp v n r lo hi) : pcs v = [v] ∧ okc v = true ∧ rok2 v = true ∧ plen (some v) = pv1 (.s (.int .i64 (n : Int))) := by
 obtain ⟨b, full, rfl, _⟩ := h
 exact ⟨rfl, rfl, rfl, rfl⟩
def Cells (hp : PH) (hi : Nat) (cs : List PV) (len : Nat → Nat) (P : Nat → Nat → Prop) : Prop := ∃ ptr : Nat → Nat,
 (∀ r, r < cs.length → len r ≤ 1000000 ∧ ((len r = 0 ∧ cs[r]? = some ov0) ∨ (cs[r]? = some (.exv 1 (ptr r) (len r)) ∧ ptr r < hi ∧ ∃ f full, hp[ptr r]? = some (.vec 1 (len r) f full) ∧ (∀ j, j < len r → (f j).length = 1) ∧ ∀ j, j < len r → P r j → f j = [.s (.int .i64 (1000 * (r : Int) + (j : Int)))]))) ∧
 ∀ r s, r < cs.length → s < cs.length → len r ≠ 0 → len s ≠ 0 → ptr r = ptr s → r = s
theorem Cells.nil {hi : Nat} {len : Nat → Nat} {P : Nat → Nat → Prop} : Cells hp hi [] len P := ⟨fun _ => 0, fun r h => by simp at h, fun r s h => by simp at h⟩
theorem Cells.keep {hi : Nat} {cs : List PV} {len : Nat → Nat} {P : Nat → Nat → Prop} (h : Cells hp hi cs len P) (hk : ∀ b, b < hi → ∀ n f full, hp[b]? = some (.vec 1 n f full) → hp'[b]? = some (.vec 1 n f full)) : Cells hp' hi cs len P := by
 obtain ⟨ptr, h1, h2⟩ := h
 refine ⟨ptr, fun r hr => ?_, h2⟩
 obtain ⟨q1, q2⟩ := h1 r hr
 refine ⟨q1, ?_⟩
 rcases q2 with q2 | ⟨q2, q3, f, full, q4, q5⟩
 ·exact .inl q2
 ·exact .inr ⟨q2, q3, f, full, hk _ q3 _ _ _ q4, q5⟩
theorem Cells.app {hi : Nat} {cs : List PV} {len : Nat → Nat} {P : Nat → Nat → Prop} (h : Cells hp hi cs len P) (l : PH) : Cells (hp ++ l) hi cs len P := h.keep fun b h2 n f full h => by
 rw [List.getElem?_append_left (List.getElem?_eq_some_iff.1 h).1]; exact h
theorem Cells.up {hi hi' : Nat} {cs : List PV} {len : Nat → Nat} {P : Nat → Nat → Prop} (h : Cells hp hi cs len P) (hle : hi ≤ hi') : Cells hp hi' cs len P := by
 obtain ⟨ptr, h1, h2⟩ := h
 refine ⟨ptr, fun r hr => ?_, h2⟩
 obtain ⟨q1, q2⟩ := h1 r hr
 refine ⟨q1, ?_⟩
 rcases q2 with q2 | ⟨q2, q3, q4⟩
 ·exact .inl q2
 ·exact .inr ⟨q2, Nat.lt_of_lt_of_le q3 hle, q4⟩
def lenS (len : Nat → Nat) (m n : Nat) : Nat → Nat := fun r => if r = m then n else len r
theorem Cells.snoc {hi hi' n : Nat} {cs : List PV} {len : Nat → Nat} {v : PV} {rr : Nat → List PV} (h : Cells hp hi cs len (fun _ _ => False)) (hv : OwnV hp v n rr hi hi') (hn : n ≤ 1000000) (h1' : ∀ j, j < n → (rr j).length = 1) (hle : hi ≤ hi') : Cells hp hi' (cs ++ [v]) (lenS len cs.length n) (fun _ _ => False) := by
 obtain ⟨ptr, h1, h2⟩ := h
 have lo : ∀ r, r < cs.length → lenS len cs.length n r = len r := fun r hr => by simp [lenS, show r ≠ cs.length by omega]
 have hiE : lenS len cs.length n cs.length = n := by simp [lenS]
 obtain ⟨b, full, rfl, g2, g3, g4⟩ := hv
 ·have pl : ∀ r, r < cs.length → len r ≠ 0 → ptr r < hi := fun r hr hn => by
   rcases (h1 r hr).2 with ⟨q, _⟩ | ⟨_, q, _⟩
   ·exact absurd q hn
   ·exact q
  refine ⟨fun r => if r = cs.length then b else ptr r, fun r hr => ?_, fun r s hr hs nr ns e => ?_⟩
  ·rw [List.length_append, List.length_singleton] at hr
   by_cases q : r < cs.length
   ·rw [lo r q, List.getElem?_append_left q]
    simp only [if_neg (show r ≠ cs.length by omega)]
    obtain ⟨q1, q2⟩ := h1 r q
    refine ⟨q1, ?_⟩
    rcases q2 with q2 | ⟨q2, q3, q4⟩
    ·exact .inl q2
    ·exact .inr ⟨q2, Nat.lt_of_lt_of_le q3 hle, q4⟩
   ·have : r = cs.length := by omega
    subst this
    rw [hiE, List.getElem?_append_right (Nat.le_refl _), Nat.sub_self]
    simp only [if_true]
    exact ⟨hn, .inr ⟨rfl, g3, rr, full, g4, h1', fun _ _ h => h.elim⟩⟩
  ·rw [List.length_append, List.length_singleton] at hr hs
   dsimp only at e
   by_cases hr' : r < cs.length
   ·rw [lo r hr'] at nr
    rw [if_neg (show r ≠ cs.length by omega)] at e
    by_cases hs' : s < cs.length
    ·rw [lo s hs'] at ns
     rw [if_neg (show s ≠ cs.length by omega)] at e
     exact h2 r s hr' hs' nr ns e
    ·rw [if_pos (show s = cs.length by omega)] at e
     have := pl r hr' nr
     omega
   ·rw [if_pos (show r = cs.length by omega)] at e
    by_cases hs' : s < cs.length
    ·rw [lo s hs'] at ns
     rw [if_neg (show s ≠ cs.length by omega)] at e
     have := pl s hs' ns
     omega
    ·omega
theorem Cells.mark {hi i k b : Nat} {cs : List PV} {len : Nat → Nat} {f : Nat → List PV} {full : Bool} (h : Cells hp hi cs len (fun r j => r < i ∨ r = i ∧ j < k)) (hi' : i < cs.length) (hk : k < len i) (hb : cs[i]? = some (.exv 1 b (len i))) (hf : hp[b]? = some (.vec 1 (len i) f full)) :
  Cells (hp.set b (.vec 1 (len i) (fun j => if j = k then [.s (.int .i64 (1000 * (i : Int) + (k : Int)))] else f j) full)) hi cs len (fun r j => r < i ∨ r = i ∧ j < k + 1) := by
 obtain ⟨ptr, h1, h2⟩ := h
 have hbl := (List.getElem?_eq_some_iff.1 hf).1
 have hpi : ptr i = b := by
  rcases (h1 i hi').2 with ⟨q, _⟩ | ⟨q, _⟩
  ·omega
  ·rw [hb] at q; cases q; rfl
 refine ⟨ptr, fun r hr => ?_, h2⟩
 obtain ⟨q1, q2⟩ := h1 r hr
 refine ⟨q1, ?_⟩
 rcases q2 with q2 | ⟨q2, q3, f', full', q4, q6, q5⟩
 ·exact .inl q2
 ·by_cases e : r = i
  ·subst e
   rw [hpi] at q4 ⊢
   rw [hf] at q4; cases q4
   rw [hpi] at q3
   refine .inr ⟨by rw [hb], q3, _, _, List.getElem?_set_self hbl, fun j hj => ?_, fun j hj hP => ?_⟩
   ·show (if j = k then _ else f j).length = 1
    by_cases ej : j = k
    ·rw [if_pos ej]; rfl
    ·rw [if_neg ej]; exact q6 j hj
   show (if j = k then _ else f j) = _
   by_cases ej : j = k
   ·subst ej; rw [if_pos rfl]
   ·rw [if_neg ej]
    refine q5 j hj ?_
    rcases hP with hP | ⟨_, hP⟩
    ·exact absurd hP (Nat.lt_irrefl _)
    ·exact .inr ⟨rfl, by omega⟩
  ·by_cases h0 : len r = 0
   ·rw [h0] at q2 ⊢
    have hpb : ∃ f2 full2, (hp.set b (.vec 1 (len i) (fun j => if j = k then [.s (.int .i64 (1000 * (i : Int) + (k : Int)))] else f j) full))[ptr r]? = some (.vec 1 0 f2 full2) := by
     by_cases e2 : b = ptr r
     ·rw [← e2, hf] at q4
      simp only [Option.some.injEq, PB.vec.injEq] at q4
      omega
     ·rw [List.getElem?_set_ne e2, q4, h0]
      exact ⟨_, _, rfl⟩
    obtain ⟨f2, full2, hpb⟩ := hpb
    exact .inr ⟨q2, q3, f2, full2, hpb, fun j hj => absurd hj (Nat.not_lt_zero _), fun j hj => absurd hj (Nat.not_lt_zero _)⟩
   ·have e2 : b ≠ ptr r := fun e2 => e (h2 r i hr hi' h0 (by omega) (by rw [hpi, e2]))
    refine .inr ⟨q2, q3, f', full', by rw [List.getElem?_set_ne e2]; exact q4, q6, fun j hj hP => q5 j hj ?_⟩
    rcases hP with hP | ⟨hP, _⟩
    ·exact .inl hP
    ·exact absurd hP e
end
end Go.Proofs.Ytggaimcopbjdiaa.AM
