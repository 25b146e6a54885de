import Derived.Test.YtggaimcopbjdiaaPM0
set_option linter.unusedVariables false
set_option linter.unusedSimpArgs false
namespace Go.Proofs.Ytggaimcopbjdiaa.AM
section
variable {V : Type → Type} [Vec V] {E : Env V} {F F' F0 : Nat → Prop} {ρ ρ' ρ0 : PR} {H H' H0 : AH V} {hp hp' hp0 : PH} {ds ds' : List Nat} {T L : List PV} {Ta La : List Value} {l0 : Nat} {st st' : PS} {sn : List (AH V)} {dr : Bool} {o : AOper} {ops : List AOper} {Q : List PV → PH → Prop} {inR : Bool} {p : List Nat} {a b c : ACode} {R : AE → List PV → PH → Prop}
def TPost (F : Nat → Prop) (ρ : PR) (ds : List Nat) (H : AH V) (p : List Nat) (R : AE → List PV → PH → Prop) (r : Res V) : Prop :=
 ∃ F' ρ' T' hp', PExt F ρ ds H F' ρ' r.ds r.H ∧ (∀ b x, b ∈ p → ρ b = some x → ρ' b = some x) ∧ Rel F' ρ' hp' r.ds r.H ∧ PRels F' ρ' r.H T' r.T ∧ R r.e T' hp'
theorem TPost.trans {r : Res V} (hx : PExt F ρ ds H F' ρ' ds' H') (hl : ∀ b x, b ∈ p → ρ b = some x → ρ' b = some x) (h : TPost F' ρ' ds' H' p R r) : TPost F ρ ds H p R r := by
 obtain ⟨F'', ρ'', T', hp', h1, h2, h3⟩ := h
 exact ⟨F'', ρ'', T', hp', hx.trans h1, fun b x q1 q2 => h2 b x q1 (hl b x q1 q2), h3⟩
def seqQ (E : Env V) (inR : Bool) (p : List Nat) (b : ACode) (R : AE → List PV → PH → Prop) : AE → List PV → PH → Prop := fun e T hp => match e with
 | .norm => PTri E inR p b T hp R
 | e => R e T hp
theorem p_seq (h : PTri E inR p a T hp (seqQ E inR p b R)) : PTri E inR p (.seq a b) T hp R := by
 intro F ρ H ds Ta hr hT
 refine runs_seq ((h F ρ H ds Ta hr hT).mono fun r hg => ?_)
 obtain ⟨e, T1, H1, ds1, v1⟩ := r
 obtain ⟨F', ρ', T', hp', a1, a2, a3, a4, a5⟩ := hg
 cases e with
 | norm => exact (a5 F' ρ' H1 ds1 T1 a3 a4).mono fun r hg => TPost.trans a1 a2 hg
 | _ => exact ⟨F', ρ', T', hp', a1, a2, a3, a4, a5⟩
theorem p_cond {s : Src} {t : Bool} (hc : psev T [] s = some (.s (.bool t))) (h1 : t = true → PTri E inR p a T hp R) (h2 : t = false → PTri E inR p b T hp R) : PTri E inR p (.cond s a b) T hp R := by
 intro F ρ H ds Ta hr hT
 refine runs_cond t (s_of (sev_ok hT .nil) hc) ?_
 cases t with
 | true => exact h1 rfl F ρ H ds Ta hr hT
 | false => exact h2 rfl F ρ H ds Ta hr hT
theorem p_done {r : AE} (hrun : ∀ (Ta : List Value) (H : AH V) (ds : List Nat), ∀ {Q : Res V → Prop}, Q ⟨r, Ta, H, ds, undef⟩ → ARuns E (.code inR c Ta H ds) Q) (h : R r T hp) : PTri E inR p c T hp R :=
 fun F ρ H ds Ta hr hT => hrun Ta H ds ⟨F, ρ, T, hp, .refl, fun _ _ _ h => h, hr, hT, h⟩
theorem p_skip (h : R .norm T hp) : PTri E inR p .skip T hp R := p_done (fun _ _ _ _ => runs_skip) h
theorem p_ret (h : R .ret T hp) : PTri E inR p .ret T hp R := p_done (fun _ _ _ _ => runs_ret) h
theorem p_exit {id : Nat} (h : R (.exit id) T hp) : PTri E inR p (.exit id) T hp R := p_done (fun _ _ _ _ => runs_exit) h
theorem p_goto {l : Nat} (h : R (.goto l) T hp) : PTri E inR p (.goto l) T hp R := p_done (fun _ _ _ _ h => runs_done (fun _ => rfl) h) h
theorem p_label {l : Nat} (h : R .norm T hp) : PTri E inR p (.label l) T hp R := p_done (fun _ _ _ _ h => runs_done (fun _ => rfl) h) h
def blkQ (id : Nat) (R : AE → List PV → PH → Prop) : AE → List PV → PH → Prop := fun e T hp => match e with
 | .exit i => R (bif Nat.beq i id then .norm else .exit i) T hp
 | e => R e T hp
theorem p_block {id : Nat} (h : PTri E inR p a T hp (blkQ id R)) : PTri E inR p (.block id a) T hp R := by
 intro F ρ H ds Ta hr hT
 refine runs_block ((h F ρ H ds Ta hr hT).mono fun r hg => ?_)
 obtain ⟨e, T1, H1, ds1, v1⟩ := r
 obtain ⟨F', ρ', T', hp', a1, a2, a3, a4, a5⟩ := hg
 cases e <;> exact ⟨F', ρ', T', hp', a1, a2, a3, a4, a5⟩
def loopQ {α : Type} (I : α → List PV → PH → Prop) (lt : α → α → Prop) (n : α) (R : AE → List PV → PH → Prop) : AE → List PV → PH → Prop := fun e T hp => match e with
 | .norm => ∃ j, lt j n ∧ I j T hp
 | e => R e T hp
theorem p_loop (I : Nat → List PV → PH → Prop) (n : Nat) (hi : I n T hp) (h : ∀ n T hp, I n T hp → PTri E inR p a T hp (loopQ I (· < ·) n R)) : PTri E inR p (.loop a) T hp R := by
 induction n using Nat.strongRecOn generalizing T hp with
 | ind n ih =>
   intro F ρ H ds Ta hr hT
   refine runs_loop ((h n T hp hi F ρ H ds Ta hr hT).mono fun r hg => ?_)
   obtain ⟨e, T1, H1, ds1, v1⟩ := r
   obtain ⟨F', ρ', T', hp', a1, a2, a3, a4, a5⟩ := hg
   cases e with
   | norm =>
     obtain ⟨j, hj, hij⟩ := a5
     exact (ih j hj hij F' ρ' H1 ds1 T1 a3 a4).mono fun r hg => TPost.trans a1 a2 hg
   | _ => exact ⟨F', ρ', T', hp', a1, a2, a3, a4, a5⟩
def pres (T : List PV) (hp : PH) : List ARes → Option (List PV × Prop)
 | [] => some ([], True)
 | .tmp t :: rs => (match T[t]? with
   | some v => (match pres T hp rs with | some (vs, q) => some (v :: vs, q) | none => none)
   | none => none)
 | .cell t n :: rs => (match pload hp n T[t]? with
   | some (v, q) => (match pres T hp rs with | some (vs, q') => some (v :: vs, q ∧ q') | none => none)
   | none => none)
def ppack : List PV → PV
 | [v] => v
 | vs => .tup vs
theorem pres_ok (hh : HOk F ρ hp H) (hT : PRels F ρ H T Ta) : ∀ {rs : List ARes} {vs : List PV} {q : Prop}, pres T hp rs = some (vs, q) → q → ∃ ws, ares Ta H rs = some ws ∧ PRels F ρ H vs ws
 | [], vs, q, h, hq => by cases h; exact ⟨[], rfl, .nil⟩
 | .tmp t :: rs, vs, q, h, hq => by
   simp only [pres] at h
   split at h
   ·next v e =>
    split at h
    ·next vs' q' e' =>
     cases h
     obtain ⟨w, r1, r2⟩ := hT.get e
     obtain ⟨ws, r3, r4⟩ := pres_ok hh hT e' hq
     exact ⟨w :: ws, by simp only [ares, r1, r3], .cons r2 r4⟩
    ·cases h
   ·cases h
 | .cell t n :: rs, vs, q, h, hq => by
   simp only [pres] at h
   split at h
   ·next v q1 e =>
    split at h
    ·next vs' q' e' =>
     cases h
     obtain ⟨w, r1, r2⟩ := load_ok (V := V) (ev := psev T []) (ea := sev Ta []) (sev_ok hT .nil) hh n (.tmp t) v q1 e hq.1
     obtain ⟨ws, r3, r4⟩ := pres_ok hh hT e' hq.2
     refine ⟨w :: ws, ?_, .cons r2 r4⟩
     have : x1 (aload H n) (fun i => Ta[i]?) t = some w := r1
     simp only [ares, this, r3]
    ·cases h
   ·cases h
theorem pack_ok {vs : List PV} {ws : List Value} (h : PRels F ρ H vs ws) : PRel F ρ H (ppack vs) (pack ws) := by
 have hl := h.len
 match vs, ws, hl with
 | [], [], _ => exact .tup (cs := []) (l := []) rfl h.at'
 | [v], [w], _ => exact h.at' 0 v w rfl rfl
 | v :: v2 :: vs, w :: w2 :: ws, _ => exact .tup (cs := v :: v2 :: vs) (l := w :: w2 :: ws) h.len h.at'
 | [], w :: ws, hl => simp at hl
 | v :: vs, [], hl => simp at hl
 | [v], w :: w2 :: ws, hl => simp at hl
 | v :: v2 :: vs, [w], hl => simp at hl
def none_ : PR := fun _ => none
theorem shut_some : ∀ {ds : List Nat} {H : AH V}, (∀ d, d ∈ ds → Vec.get H d = some .defr) → ds.Nodup → ∃ H', shut H ds = some H' ∧ Vec.size H' = Vec.size H ∧ ∀ a, a ∉ ds → Vec.get H' a = Vec.get H a
 | [], H, _, _ => ⟨H, rfl, rfl, fun _ _ => rfl⟩
 | d :: ds, H, h, hn => by
   have hd := h d (List.mem_cons_self ..)
   obtain ⟨hn1, hn2⟩ := List.nodup_cons.1 hn
   obtain ⟨H', r1, r2, r3⟩ := shut_some (H := Vec.set H d .dead) (ds := ds) (fun e he => by
    rw [get_set_ne (show d ≠ e from fun x => hn1 (x ▸ he))]
    exact h e (List.mem_cons_of_mem _ he)) hn2
   refine ⟨H', by simp only [shut, hd]; exact r1, by rw [r2, Vec.size_set], fun a ha => ?_⟩
   rw [r3 a fun x => ha (List.mem_cons_of_mem _ x), get_set_ne (show d ≠ a from fun x => ha (x ▸ List.mem_cons_self ..))]
theorem rel_shut (hr : Rel F ρ hp ds H) (hs : Vec.size H' = Vec.size H) (hg : ∀ a, a ∉ ds → Vec.get H' a = Vec.get H a) : Rel F ρ hp [] H' ∧ FLe F H F H' := by
 have hle : FLe F H F H' := ⟨fun _ h => h, fun a ha => hg a fun x => (hr.dfr a x).2.1 ha⟩
 refine ⟨⟨fun a ha => by rw [hs]; exact hr.fsz a ha, fun b B hb => (hr.blk b B hb).mono hle (fun _ _ h => h) fun a e _ h => hg a fun x => (hr.dfr a x).2.2 ⟨b, e, h⟩, hr.inj, hr.dom, fun b a e h => by rw [hs]; exact hr.own b a e h, fun d hd => by simp at hd, List.nodup_nil⟩, hle⟩
def PCall (E : Env V) (p : List Nat) (f : FuncId) (args : List PV) (hp : PH) (R : PV → PH → Prop) : Prop :=
 ∀ (F : Nat → Prop) (ρ : PR) (H : AH V) (avs : List Value), Rel F ρ hp [] H → PRels F ρ H args avs → ARuns E (.call f avs H) fun r => ∃ F' ρ' hp' v, PExt F ρ [] H F' ρ' [] r.H ∧ (∀ b x, b ∈ p → ρ b = some x → ρ' b = some x) ∧ Rel F' ρ' hp' [] r.H ∧ PRel F' ρ' r.H v r.v ∧ R v hp'
def retQ (res : List ARes) (R : PV → PH → Prop) : AE → List PV → PH → Prop := fun e T hp => (e = .norm ∨ e = .ret) ∧ ∃ vs q, pres T hp res = some (vs, q) ∧ q ∧ R (ppack vs) hp
theorem keep_ok {args : List PV} {avs : List Value} (h : PRels F ρ H args avs) (keep : List Nat) : PRels F ρ H (keep.map fun t => (args[t]?).getD .junk) (keep.map fun t => (avs[t]?).getD undef) := by
 refine ⟨by simp, fun j c v h1 h2 => ?_⟩
 rw [List.getElem?_map] at h1 h2
 cases hk : keep[j]? with
 | none => rw [hk] at h1; cases h1
 | some t =>
   rw [hk] at h1 h2
   simp only [Option.map_some, Option.some.injEq] at h1 h2
   cases hq : args[t]? with
   | none => rw [hq] at h1; subst h1; exact .fr (.junk _)
   | some u =>
     obtain ⟨w, r1, r2⟩ := h.get hq
     rw [hq] at h1
     rw [r1] at h2
     simp only [Option.getD_some] at h1 h2
     subst h1; subst h2
     exact r2
theorem p_call {f : FuncId} {fn : AFunc} {args : List PV} {R : PV → PH → Prop} (hx : ∀ avs (H : AH V), E.ext f avs H = none) (hf : E.fn f = some fn)
  (h : PTri E false p fn.body (fn.keep.map fun t => (args[t]?).getD .junk) hp (retQ fn.res R)) : PCall E p f args hp R := by
 intro F ρ H avs hr ha
 refine runs_call (hx _ _) hf ((h F ρ H [] _ hr (keep_ok ha fn.keep)).mono fun r hg => ?_)
 obtain ⟨e, T1, H1, ds1, v1⟩ := r
 obtain ⟨F', ρ', T', hp', a1, a2, a3, a4, a5, vs, q, a6, a7, a8⟩ := hg
 obtain ⟨H2, s1, s2, s3⟩ := shut_some (fun d hd => (a3.dfr d hd).1) a3.nd
 obtain ⟨r1, r2⟩ := rel_shut a3 s2 s3
 obtain ⟨ws, r3, r4⟩ := pres_ok r1.blk (a4.mono r2 (fun _ _ h => h)) a6 a7
 refine ⟨a5, H2, ws, s1, r3, F', ρ', hp', _, ?_, a2, r1, pack_ok r4, a8⟩
 refine ⟨by rw [s2]; exact a1.size, a1.fmono, fun a ha => (r2.get a (a1.fmono a ha)).trans (a1.fget a ha), a1.fnew, fun a q1 q2 q3 => ?_, a1.own, fun d hd => by simp at hd⟩
 rw [s3 a fun hd => ?_]
 ·exact a1.keep a q1 q2 q3
 ·rcases a1.dsx a hd with x | x
  ·cases x
  ·omega
def PFun (E : Env V) (f : FuncId) (args : List PV) (R : PV → PH → Prop) : Prop := PCall E [] f args [] R
theorem rel_none (hf : ∀ a, F a → a < Vec.size H) : Rel F none_ [] [] H :=
 ⟨hf, (fun b B h => by simp at h), (fun b b' B B' a e e' h => by simp at h), (fun _ _ => rfl), (fun b a e h => nomatch h), (fun d h => by cases h), List.nodup_nil⟩
def nlA : PV → Bool
 | .junk => true
 | .agg cs => cs.all nlb
 | .fn _ a c => a.all nlb && c.all nlb
 | v => nlb v
def nlv : PV → Bool
 | .junk => true
 | .agg cs => cs.all nlb
 | .tup cs => cs.all nlA
 | .fn _ a c => a.all nlb && c.all nlb
 | v => nlb v
theorem nlb_ok {v : PV} {w : Value} (h : PRel F ρ H v w) (hv : nlb v = true) : PRel F ρ' H v w := .fr (h.nl hv)
theorem nlbs_ok {vs : List PV} {ws : List Value} (h : ∀ (j : Nat) (c : PV) (v : Value), vs[j]? = some c → ws[j]? = some v → PRel F ρ H c v) (hv : vs.all nlb = true) : ∀ (j : Nat) (c : PV) (v : Value), vs[j]? = some c → ws[j]? = some v → PRel F ρ' H c v := fun j c v h1 h2 => nlb_ok (h j c v h1 h2) (List.all_eq_true.1 hv _ (List.mem_of_getElem? h1))
theorem nlA_ok {v : PV} {w : Value} (h : PRel F ρ H v w) (hv : nlA v = true) : PRel F ρ' H v w := by
 cases h with
 | fr h => exact .fr h
 | agg hl h => exact .agg hl (nlbs_ok h hv)
 | fn hl h hm h' =>
   simp only [nlA, Bool.and_eq_true] at hv
   exact .fn hl (nlbs_ok h hv.1) hm (nlbs_ok h' hv.2)
 | _ => cases hv
theorem nlv_ok {v : PV} {w : Value} (h : PRel F ρ H v w) (hv : nlv v = true) : PRel F ρ' H v w := by
 cases h with
 | fr h => exact .fr h
 | agg hl h => exact .agg hl (nlbs_ok h hv)
 | tup hl h => exact .tup hl fun j c v h1 h2 => nlA_ok (h j c v h1 h2) (List.all_eq_true.1 hv _ (List.mem_of_getElem? h1))
 | fn hl h hm h' =>
   simp only [nlv, Bool.and_eq_true] at hv
   exact .fn hl (nlbs_ok h hv.1) hm (nlbs_ok h' hv.2)
 | _ => cases hv
theorem nlvs_ok {vs : List PV} {ws : List Value} (h : PRels F ρ H vs ws) (hv : vs.all nlv = true) : PRels F ρ' H vs ws := ⟨h.len, fun j c v h1 h2 => nlv_ok (h.at' j c v h1 h2) (List.all_eq_true.1 hv _ (List.mem_of_getElem? h1))⟩
end
end Go.Proofs.Ytggaimcopbjdiaa.AM
namespace Go.Proofs.Ytggaimcopbjdiaa.AM
section
variable {V : Type → Type} [Vec V] {E : Env V} {F F' F0 : Nat → Prop} {ρ ρ' ρ0 : PR} {H H' H0 : AH V} {hp hp' hp0 : PH} {ds ds' : List Nat} {T L : List PV} {Ta La : List Value} {l0 : Nat} {st st' : PS} {sn : List (AH V)} {dr : Bool} {o : AOper} {ops : List AOper} {Q : List PV → PH → Prop} {inR : Bool} {p : List Nat} {a b c : ACode} {R : AE → List PV → PH → Prop}
theorem BOk.mono' {b b' : Nat} {B : PB} (h : BOk F ρ H b B) (hle : FLe F H F' H') (hr : RLe' ρ ρ') (hb : ∀ x, ρ b = some x → ρ' b' = some x) (hg : ∀ a e, B ≠ .dead → ρ b = some (some (a, e)) → ¬ F' a ∧ Vec.get H' a = Vec.get H a) : BOk F' ρ' H' b' B := by
 cases B with
 | dead => trivial
 | cel cs =>
   obtain ⟨a, e, vs, r1, r2, r3, r4, r5⟩ := h
   obtain ⟨g1, g2⟩ := hg a e (by simp) r1
   exact ⟨a, e, vs, hb _ r1, g1, g2.trans r3, r4, r5.mono hle hr⟩
 | loop T ps as_ bd st pe =>
   obtain ⟨a, e, Ta, r1, r2, r3, r4⟩ := h
   obtain ⟨g1, g2⟩ := hg a e (by simp) r1
   exact ⟨a, e, Ta, hb _ r1, g1, g2.trans r3, r4.mono hle hr⟩
 | vec sz n f full =>
   rcases h with ⟨h1, h2⟩ | ⟨a, ce, vs, r1, r2, r3, r4, r5, r6, r7, r8, r9, r10⟩
   ·exact .inl ⟨hb _ h1, h2⟩
   ·obtain ⟨g1, g2⟩ := hg a ce (by simp) r1
    exact .inr ⟨a, ce, vs, hb _ r1, g1, g2.trans r3, r4, r5, r6, r7, r8, r9, fun i j c v q1 q2 q3 => (r10 i j c v q1 q2 q3).mono hle⟩
def psh0 (k : Nat) : PV → PV
 | .ptr b o => .ptr (k + b) o
 | .eptr sz b i o => .eptr sz (k + b) i o
 | .vec sz b n => .vec sz (k + b) n
 | .sub sz b i n => .sub sz (k + b) i n
 | .exv sz b n => .exv sz (k + b) n
 | .tbv b n => .tbv (k + b) n
 | .que b i n => .que (k + b) i n
 | .yld b => .yld (k + b)
 | v => v
def pshift (k : Nat) : PV → PV
 | .agg cs => .agg (cs.map (psh0 k))
 | .tup cs => .tup (cs.map (psh0 k))
 | v => psh0 k v
def flat0 : PV → Bool
 | .agg _ => false
 | .tup _ => false
 | .fn _ _ _ => false
 | _ => true
def shOk : PV → Bool
 | .agg cs => cs.all flat0
 | .tup cs => cs.all fun v => flat0 v || nlv v
 | .fn f a c => nlv (.fn f a c)
 | _ => true
def shB : PB → Bool
 | .cel _ => false
 | .loop .. => false
 | _ => true
def cat (k : Nat) (ρ ρc : PR) : PR := fun b => if b < k then ρ b else ρc (b - k)
theorem cat_hi {k b : Nat} {ρ ρc : PR} : cat k ρ ρc (k + b) = ρc b := by
 unfold cat
 rw [if_neg (by omega), Nat.add_sub_cancel_left]
theorem cat_lo {k b : Nat} {ρ ρc : PR} (h : b < k) : cat k ρ ρc b = ρ b := by simp [cat, h]
theorem psh0_ok {k : Nat} {ρc : PR} {v : PV} {w : Value} (h : PRel F ρc H v w) (hv : flat0 v = true) : PRel F (cat k ρ ρc) H (psh0 k v) w := by
 cases h with
 | fr h =>
   have : psh0 k v = v := by cases h <;> rfl
   rw [this]; exact .fr h
 | ptr h => exact .ptr (cat_hi.trans h)
 | eptr h => exact .eptr (cat_hi.trans h)
 | vec h hn => exact .vec (cat_hi.trans h) hn
 | vecz h hn => exact .vecz (cat_hi.trans h) hn
 | sub h ho hl hn => exact .sub (cat_hi.trans h) ho hl hn
 | exv h hn => exact .exv (cat_hi.trans h) hn
 | exvz h hn => exact .exvz (cat_hi.trans h) hn
 | tbv h hn => exact .tbv (cat_hi.trans h) hn
 | que h => exact .que (cat_hi.trans h)
 | subz h hn => exact .subz (cat_hi.trans h) hn
 | yld h => exact .yld (cat_hi.trans h)
 | agg => cases hv
 | tup => cases hv
 | fn => cases hv
theorem psh0_nl {k : Nat} {v : PV} (hv : nlv v = true) : psh0 k v = v := by
 cases v <;> first | rfl | cases hv
theorem pshift_ok {k : Nat} {ρc : PR} {v : PV} {w : Value} (h : PRel F ρc H v w) (hv : shOk v = true) : PRel F (cat k ρ ρc) H (pshift k v) w := by
 cases v with
 | agg cs =>
   obtain ⟨l, rfl, hl⟩ := h.agg_inv
   refine .agg (by simp [hl.len]) fun j c v h1 h2 => ?_
   rw [List.getElem?_map] at h1
   cases hq : cs[j]? with
   | none => rw [hq] at h1; cases h1
   | some u =>
     rw [hq] at h1; cases h1
     exact psh0_ok (hl.at' j u v hq h2) (List.all_eq_true.1 hv _ (List.mem_of_getElem? hq))
 | tup cs =>
   obtain ⟨l, rfl, hl⟩ := h.tup_inv
   refine .tup (by simp [hl.len]) fun j c v h1 h2 => ?_
   rw [List.getElem?_map] at h1
   cases hq : cs[j]? with
   | none => rw [hq] at h1; cases h1
   | some u =>
     rw [hq] at h1; cases h1
     have := List.all_eq_true.1 hv _ (List.mem_of_getElem? hq)
     simp only [Bool.or_eq_true] at this
     rcases this with x | x
     ·exact psh0_ok (hl.at' j u v hq h2) x
     ·rw [psh0_nl x]; exact nlv_ok (hl.at' j u v hq h2) x
 | fn f a c => exact nlv_ok h hv
 | _ => exact psh0_ok h rfl
theorem prg_call {fs : Src} {args : List Src} {gd : Option (Src × Bool)} {lo : Nat} {g : FuncId} {first cap vs : List PV} {Qf : PV → PH → Prop} (h1 : psev T st.L fs = some (.fn g first cap)) (h2 : pevs (psev T st.L) args = some vs) (h3 : (first ++ vs ++ cap).all nlv = true) (hw : pwanted T st.L gd = some true)
  (hc : PFun E g (first ++ vs ++ cap) Qf) (hk : ∀ v hpc, Qf v hpc → shOk v = true ∧ hpc.all shB = true ∧ PRg E p dr T ops l0 ⟨pshift st.hp.length v :: st.L, false :: st.O, st.hp ++ hpc, st.md, st.cnt + 1⟩ Q) : PRg E p dr T (⟨.call fs args, gd, lo⟩ :: ops) l0 st Q := by
 intro F0 ρ0 hp0 H0 F ρ H ds Ta La sn hr hd
 have hev := sev_ok (hd.T.mono hd.fle hd.rle) hd.L
 obtain ⟨fw, f1, f2⟩ := hev _ _ h1
 obtain ⟨ws, w1, w2⟩ := evs_ok hev h2
 cases f2 with
 | fr h => cases h
 | @fn _ _ _ lf lc hl hlr hm hmr =>
 refine prg_does hr hd (wanted_ok hev hw) (does_call f1 w1 ?_)
 have hargs : PRels F ρ H (first ++ vs ++ cap) (lf ++ ws ++ lc) := (PRels.append (PRels.append ⟨hl, hlr⟩ w2) ⟨hm, hmr⟩)
 refine (hc F none_ H _ (rel_none hr.fsz) (nlvs_ok hargs h3)).mono fun r hg => ?_
 obtain ⟨F', ρc, hpc, v, a1, _, a3, a4, a5⟩ := hg
 obtain ⟨k1, k2, k3⟩ := hk v hpc a5
 have hkeep : ∀ a, a < Vec.size H → Vec.get r.H a = Vec.get H a := fun a ha => a1.keep a ha (fun ⟨b, e, h⟩ => by cases h) (fun h => by cases h)
 have hfn : ∀ a, F' a → a < Vec.size H → F a := fun a h1 h2 => by
  rcases a1.fnew a h1 with x | ⟨b, e, x⟩ | x
  ·exact x
  ·cases x
  ·omega
 have hoc : ∀ b a e, ρc b = some (some (a, e)) → Vec.size H ≤ a := fun b a e h => by
  rcases a1.own a ⟨b, e, h⟩ with ⟨b, e, x⟩ | x
  ·cases x
  ·exact x
 have hlr : RLe' ρ (cat st.hp.length ρ ρc) := fun b x h => by
  by_cases hb : b < st.hp.length
  ·rw [cat_lo hb]; exact h
  ·rw [hr.dom b (by omega)] at h; cases h
 have hget : ∀ b B, (st.hp ++ hpc)[b]? = some B → (b < st.hp.length ∧ st.hp[b]? = some B) ∨ (st.hp.length ≤ b ∧ hpc[b - st.hp.length]? = some B) := fun b B h => by
  by_cases hb : b < st.hp.length
  ·rw [List.getElem?_append_left hb] at h; exact .inl ⟨hb, h⟩
  ·rw [List.getElem?_append_right (by omega)] at h; exact .inr ⟨by omega, h⟩
 have hcat : ∀ b, st.hp.length ≤ b → cat st.hp.length ρ ρc b = ρc (b - st.hp.length) := fun b hb => by
  unfold cat; rw [if_neg (by omega)]
 refine ⟨F', cat st.hp.length ρ ρc, pshift st.hp.length v, st.hp ++ hpc, ?_, hlr, ?_, pshift_ok a4 k1, false, st.md, fun _ h => h, (fun h => nomatch h), ?_, ?_, (fun _ => rfl), k3⟩
 ·refine ⟨a1.size, a1.fmono, a1.fget, fun a h => ?_, fun a q1 _ _ => hkeep a q1, fun a h => ?_, fun d h => .inl h⟩
  ·rcases a1.fnew a h with x | ⟨b, e, x⟩ | x
   ·exact .inl x
   ·cases x
   ·exact .inr (.inr x)
  ·obtain ⟨b, e, h⟩ := h
   by_cases hb : b < st.hp.length
   ·rw [cat_lo hb] at h; exact .inl ⟨b, e, h⟩
   ·rw [hcat b (by omega)] at h; exact .inr (hoc _ _ _ h)
 ·refine ⟨a3.fsz, ?_, ?_, ?_, ?_, ?_, hr.nd⟩
  ·intro b B h
   rcases hget b B h with ⟨hb, h⟩ | ⟨hb, h⟩
   ·refine (hr.blk b B h).mono' a1.fle hlr (fun x hx => hlr b x hx) fun a e hne he => ?_
    have hal := hr.own b a e he
    refine ⟨fun x => ?_, hkeep a hal⟩
    have hFa := hfn a x hal
    have hbo := hr.blk b B h
    cases B with
    | dead => exact hne rfl
    | cel cs =>
      obtain ⟨a', e', vs', q1, q2, _⟩ := hbo
      rw [he] at q1; cases q1; exact q2 hFa
    | loop T ps as_ bd st pe =>
      obtain ⟨a', e', vs', q1, q2, _⟩ := hbo
      rw [he] at q1; cases q1; exact q2 hFa
    | vec sz n f full =>
      rcases hbo with ⟨q1, _⟩ | ⟨a', ce, vs', q1, q2, _⟩
      ·rw [he] at q1; cases q1
      ·rw [he] at q1; cases q1; exact q2 hFa
   ·have hB := List.all_eq_true.1 k2 B (List.mem_of_getElem? h)
    have hbo := a3.blk _ B h
    cases B with
    | dead => trivial
    | cel cs => cases hB
    | loop T ps as_ bd st pe => cases hB
    | vec sz n f full =>
      rcases hbo with ⟨q1, q2⟩ | ⟨a', ce, vs', q1, q2⟩
      ·exact .inl ⟨(hcat b hb).trans q1, q2⟩
      ·exact .inr ⟨a', ce, vs', (hcat b hb).trans q1, q2⟩
  ·intro b b' B B' a e e' g1 g2 d1 d2 q1 q2
   rcases hget b B g1 with ⟨hb, g1⟩ | ⟨hb, g1⟩
   ·rw [cat_lo hb] at q1
    rcases hget b' B' g2 with ⟨hb', g2⟩ | ⟨hb', g2⟩
    ·rw [cat_lo hb'] at q2
     exact hr.inj b b' B B' a e e' g1 g2 d1 d2 q1 q2
    ·rw [hcat b' hb'] at q2
     have x1 := hr.own _ _ _ q1
     have x2 := hoc _ _ _ q2
     omega
   ·rw [hcat b hb] at q1
    rcases hget b' B' g2 with ⟨hb', g2⟩ | ⟨hb', g2⟩
    ·rw [cat_lo hb'] at q2
     have x1 := hr.own _ _ _ q2
     have x2 := hoc _ _ _ q1
     omega
    ·rw [hcat b' hb'] at q2
     have := a3.inj _ _ B B' a e e' g1 g2 d1 d2 q1 q2
     omega
  ·intro b hb
   rw [List.length_append] at hb
   rw [hcat b (by omega)]
   exact a3.dom _ (by omega)
  ·intro b a e h
   by_cases hb : b < st.hp.length
   ·rw [cat_lo hb] at h; exact Nat.lt_of_lt_of_le (hr.own _ _ _ h) a1.size
   ·rw [hcat b (by omega)] at h; exact a3.own _ _ _ h
  ·intro d h
   obtain ⟨q1, q2, q3⟩ := hr.dfr d h
   have hdl := Vec.get_lt _ _ _ q1
   refine ⟨(hkeep d hdl).trans q1, fun x => q2 (hfn d x hdl), ?_⟩
   rintro ⟨b, e, h⟩
   by_cases hb : b < st.hp.length
   ·rw [cat_lo hb] at h; exact q3 ⟨b, e, h⟩
   ·rw [hcat b (by omega)] at h
    have := hoc _ _ _ h
    omega
 ·intro b B a e _ _ _ h
  exact hkeep a (hr.own _ _ _ h)
 ·intro b B _ _ h
  rw [List.getElem?_append_left (List.getElem?_eq_some_iff.1 h).1]
  exact h
theorem prg_icall {fs : Src} {args : List Src} {gd : Option (Src × Bool)} {lo : Nat} {g : FuncId} {first cap vs : List PV} {Qf : PV → PH → Prop} (h1 : psev T st.L fs = some (.fn g first cap)) (h2 : pevs (psev T st.L) args = some vs) (hw : pwanted T st.L gd = some true)
  (hc : PCall E (List.range st.hp.length) g (first ++ vs ++ cap) st.hp Qf) (hk : ∀ v hp', Qf v hp' → PRg E p dr T ops l0 ⟨v :: st.L, false :: st.O, hp', List.range st.hp.length ++ st.md, st.cnt + 1⟩ Q) : PRg E p dr T (⟨.call fs args, gd, lo⟩ :: ops) l0 st Q := by
 intro F0 ρ0 hp0 H0 F ρ H ds Ta La sn hr hd
 have hev := sev_ok (hd.T.mono hd.fle hd.rle) hd.L
 obtain ⟨fw, f1, f2⟩ := hev _ _ h1
 obtain ⟨ws, w1, w2⟩ := evs_ok hev h2
 cases f2 with
 | fr h => cases h
 | @fn _ _ _ lf lc hl hlr hm hmr =>
 refine prg_does hr hd (wanted_ok hev hw) (does_call f1 w1 ?_)
 have hargs : PRels F ρ H (first ++ vs ++ cap) (lf ++ ws ++ lc) := (PRels.append (PRels.append ⟨hl, hlr⟩ w2) ⟨hm, hmr⟩)
 have hr0 : Rel F ρ st.hp [] H := ⟨hr.fsz, hr.blk, hr.inj, hr.dom, hr.own, (fun d h => nomatch h), List.nodup_nil⟩
 refine (hc F ρ H _ hr0 hargs).mono fun r hg => ?_
 obtain ⟨F', ρ', hp', v, a1, a2, a3, a4, a5⟩ := hg
 have hlr : RLe' ρ ρ' := fun b x h => by
  by_cases hb : b < st.hp.length
  ·exact a2 b x (List.mem_range.2 hb) h
  ·rw [hr.dom b (by omega)] at h; cases h
 refine ⟨F', ρ', v, hp', ⟨a1.size, a1.fmono, a1.fget, a1.fnew, fun a q1 q2 _ => a1.keep a q1 q2 (fun h => by cases h), a1.own, fun d h => .inl h⟩, hlr, ⟨a3.fsz, a3.blk, a3.inj, a3.dom, a3.own, fun d h => ?_, hr.nd⟩, a4, false, List.range st.hp.length ++ st.md, fun m hm => List.mem_append_right _ hm, (fun h => nomatch h), ?_, ?_, (fun _ => rfl), hk v hp' a5⟩
 ·obtain ⟨q1, q2, q3⟩ := hr.dfr d h
  have hdl := Vec.get_lt _ _ _ q1
  refine ⟨(a1.keep d hdl q3 (fun h => by cases h)).trans q1, fun x => ?_, fun x => ?_⟩
  ·rcases a1.fnew d x with y | y | y
   ·exact q2 y
   ·exact q3 y
   ·omega
  ·rcases a1.own d x with y | y
   ·exact q3 y
   ·omega
 ·intro b B a e g1 g2 g3 g4
  exact absurd (List.mem_append_left _ (List.mem_range.2 (List.getElem?_eq_some_iff.1 g1).1)) g3
 ·intro b B _ g2 g1
  exact absurd (List.mem_append_left _ (List.mem_range.2 (List.getElem?_eq_some_iff.1 g1).1)) g2
abbrev Sig := List (Option Nat)
def sgR (σ : Sig) (ρ : PR) : PR := fun b => match σ[b]? with
 | some (some i) => ρ i
 | some none => some none
 | none => none
inductive VSub1 (σ : Sig) (fz : List Nat) (hp : PH) : PV → PV → Prop
 | junk (v : PV) : VSub1 σ fz hp v .junk
 | same {v : PV} (h : nlb v = true) : VSub1 σ fz hp v v
 | s {v w : Value} (h : v = w) : VSub1 σ fz hp (.s v) (.s w)
 | frz {sz n n' k k' : Nat} {row row' : Nat → List PV} (h1 : n = n') (h2 : n' ≤ k') (h3 : k' ≤ k) (h : ∀ i, i < k' → row i = row' i) : VSub1 σ fz hp (.frz sz n k row) (.frz sz n' k' row')
 | ptr {b b' off : Nat} (h : σ[b']? = some (some b)) : VSub1 σ fz hp (.ptr b off) (.ptr b' off)
 | yld {b b' : Nat} (h : σ[b']? = some (some b)) : VSub1 σ fz hp (.yld b) (.yld b')
 | eptr {sz b b' i off : Nat} (h : σ[b']? = some (some b)) : VSub1 σ fz hp (.eptr sz b i off) (.eptr sz b' i off)
 | vec {sz b b' n n' : Nat} (h : σ[b']? = some (some b)) (hn : n = n') : VSub1 σ fz hp (.vec sz b n) (.vec sz b' n')
 | sub {sz b b' i n n' : Nat} (h : σ[b']? = some (some b)) (hn : n = n') : VSub1 σ fz hp (.sub sz b i n) (.sub sz b' i n')
 | exv {sz b b' n n' : Nat} (h : σ[b']? = some (some b)) (hn : n = n') : VSub1 σ fz hp (.exv sz b n) (.exv sz b' n')
 | tbv {b b' n n' : Nat} (h : σ[b']? = some (some b)) (hn : n = n') : VSub1 σ fz hp (.tbv b n) (.tbv b' n')
 | que {b b' i i' n n' : Nat} (h : σ[b']? = some (some b)) (hi : i = i') (hn : n = n') : VSub1 σ fz hp (.que b i n) (.que b' i' n')
 | fzxc {sz n : Nat} {row row' : Nat → List PV} (h : ∀ i, i < n → row i = row' i) : VSub1 σ fz hp (.fzx sz n row) (.fzx sz n row')
 | fzxf {sz n : Nat} {row row' : Nat → List PV} (h : ∀ i, i < n → row i = row' i) : VSub1 σ fz hp (.fzx sz n row) (.frz sz n n row')
 | exvx {sz b n m : Nat} {f row : Nat → List PV} {full : Bool} (h : b ∈ fz) (hb : hp[b]? = some (.vec sz m f full)) (h2 : n ≤ m) (hf : ∀ i, i < n → f i = row i) : VSub1 σ fz hp (.exv sz b n) (.fzx sz n row)
 | nilE {sz b' : Nat} (h : σ[b']? = some none) : VSub1 σ fz hp (.s (.slice none 0 0)) (.exv sz b' 0)
 | nilx {sz : Nat} {row : Nat → List PV} : VSub1 σ fz hp (.s (.slice none 0 0)) (.fzx sz 0 row)
 | nil {sz b' : Nat} (h : σ[b']? = some none) : VSub1 σ fz hp (.s (.slice none 0 0)) (.vec sz b' 0)
 | nilf {sz : Nat} {row : Nat → List PV} : VSub1 σ fz hp (.s (.slice none 0 0)) (.frz sz 0 0 row)
 | vecf {sz b n n' m k : Nat} {f row : Nat → List PV} {full : Bool} (h : b ∈ fz) (hb : hp[b]? = some (.vec sz m f full)) (h1 : n = n') (h2 : n' ≤ k) (h3 : k ≤ m) (hf : ∀ i, i < k → f i = row i) : VSub1 σ fz hp (.vec sz b n) (.frz sz n' k row)
 | exvf {sz b n n' m : Nat} {f row : Nat → List PV} {full : Bool} (h : b ∈ fz) (hb : hp[b]? = some (.vec sz m f full)) (h1 : n = n') (h2 : n ≤ m) (hf : ∀ i, i < n → f i = row i) : VSub1 σ fz hp (.exv sz b n) (.frz sz n' n' row)
 | ptrf {sz k b i o off : Nat} {cs : List PV} {row : Nat → List PV} (h : b ∈ fz) (hb : hp[b]? = some (.cel cs)) (hi : i < k) (ho : off = i * sz + o) (hl : k * sz ≤ cs.length) (hn : cs.all nlb = true) (hf : ∀ i, i < k → (cs.drop (i * sz)).take sz = row i) : VSub1 σ fz hp (.ptr b off) (.fptr sz k row i o)
 | vecc {b n n' : Nat} {cs : List PV} {w : Nat → PV} (h : b ∈ fz) (hb : hp[b]? = some (.cel cs)) (hn : n ≤ cs.length) (he : n' = n) (hw : ∀ i, i < n → nlb (w i) = true) (hc : ∀ i, i < n → VSub1 σ fz hp (cs.getD i .junk) (w i)) : VSub1 σ fz hp (.vec 1 b n) (.frz 1 n' n' fun i => [w i])
inductive VSubs1 (σ : Sig) (fz : List Nat) (hp : PH) : List PV → List PV → Prop
 | nil : VSubs1 σ fz hp [] []
 | cons {v w : PV} {vs ws : List PV} (h : VSub1 σ fz hp v w) (t : VSubs1 σ fz hp vs ws) : VSubs1 σ fz hp (v :: vs) (w :: ws)
inductive VSub (σ : Sig) (fz : List Nat) (hp : PH) : PV → PV → Prop
 | one {v w : PV} (h : VSub1 σ fz hp v w) : VSub σ fz hp v w
 | agg {vs ws : List PV} (h : VSubs1 σ fz hp vs ws) : VSub σ fz hp (.agg vs) (.agg ws)
 | tup {vs ws : List PV} (h : VSubs1 σ fz hp vs ws) : VSub σ fz hp (.tup vs) (.tup ws)
 | fn {f : FuncId} {vs ws us zs : List PV} (h : VSubs1 σ fz hp vs ws) (h' : VSubs1 σ fz hp us zs) : VSub σ fz hp (.fn f vs us) (.fn f ws zs)
 | nlv {v : PV} (h : nlv v = true) : VSub σ fz hp v v
inductive VSubs (σ : Sig) (fz : List Nat) (hp : PH) : List PV → List PV → Prop
 | nil : VSubs σ fz hp [] []
 | cons {v w : PV} {vs ws : List PV} (h : VSub σ fz hp v w) (t : VSubs σ fz hp vs ws) : VSubs σ fz hp (v :: vs) (w :: ws)
inductive BSub (σ : Sig) (fz : List Nat) (hp : PH) (b : Nat) : PB → Prop
 | dead : BSub σ fz hp b .dead
 | cel {i : Nat} {cs cs' : List PV} (h : σ[b]? = some (some i)) (hf : i ∉ fz) (hb : hp[i]? = some (.cel cs)) (hc : VSubs σ fz hp cs cs') : BSub σ fz hp b (.cel cs')
 | loop {i : Nat} {T T' : List PV} {ps : List (Option Nat)} {as_ bd : ACode} {st : LoopState} {pe : Option AE} (h : σ[b]? = some (some i)) (hf : i ∉ fz) (hb : hp[i]? = some (.loop T ps as_ bd st pe)) (hc : VSubs σ fz hp T T') : BSub σ fz hp b (.loop T' ps as_ bd st pe)
 | vec {i sz n n' : Nat} {f f' : Nat → List PV} {full full' : Bool} (h : σ[b]? = some (some i)) (hf : i ∉ fz) (hb : hp[i]? = some (.vec sz n f full)) (hn : n' ≤ n) (hfull : full' = true → full = true ∧ n' = n) (hc : ∀ i, i < n' → f i = f' i) : BSub σ fz hp b (.vec sz n' f' full')
 | nil {sz : Nat} {f : Nat → List PV} {full : Bool} (h : σ[b]? = some none) : BSub σ fz hp b (.vec sz 0 f full)
 | veccel {i n : Nat} {f : Nat → List PV} {cs : List PV} (h : σ[b]? = some (some i)) (hf : i ∉ fz) (hb : hp[i]? = some (.vec 1 n f true)) (hn : 0 < n) (hl : cs.length = n) (hc : ∀ j c, cs[j]? = some c → f j = [c]) : BSub σ fz hp b (.cel cs)
inductive BSubs (σ : Sig) (fz : List Nat) (hp : PH) : Nat → List PB → Prop
 | nil {b : Nat} : BSubs σ fz hp b []
 | cons {b : Nat} {B : PB} {l : List PB} (h : BSub σ fz hp b B) (t : BSubs σ fz hp (b + 1) l) : BSubs σ fz hp b (B :: l)
def sgKeep (p : List Nat) (σ : Sig) : Bool := p.all fun b => match σ[b]? with | some (some i) => Nat.beq i b | _ => false
def sgInj (σ : Sig) : Bool := (List.range σ.length).all fun b => (List.range σ.length).all fun c => Nat.beq b c || (match σ[b]?, σ[c]? with | some (some i), some (some j) => !Nat.beq i j | _, _ => true)
structure Weak (p : List Nat) (σ : Sig) (fz : List Nat) (T : List PV) (hp : PH) (T' : List PV) (hp' : PH) : Prop where
 len : hp'.length = σ.length
 keep : sgKeep p σ = true
 inj : sgInj σ = true
 vals : VSubs σ fz hp T T'
 blks : BSubs σ fz hp 0 hp'
theorem sgKeep_at {p : List Nat} {σ : Sig} (h : sgKeep p σ = true) {b : Nat} (hb : b ∈ p) : σ[b]? = some (some b) := by
 have := List.all_eq_true.1 h b hb
 split at this
 ·next i e => rw [e, Nat.eq_of_beq_eq_true this]
 ·cases this
theorem sgInj_at {σ : Sig} (h : sgInj σ = true) {b c i : Nat} (h1 : σ[b]? = some (some i)) (h2 : σ[c]? = some (some i)) : b = c := by
 have b1 := (List.getElem?_eq_some_iff.1 h1).1
 have c1 := (List.getElem?_eq_some_iff.1 h2).1
 have := List.all_eq_true.1 (List.all_eq_true.1 h b (List.mem_range.2 b1)) c (List.mem_range.2 c1)
 rw [h1, h2] at this
 simp only [Bool.or_eq_true, Nat.beq_eq] at this
 rcases this with x | x
 ·exact x
 ·have : Nat.beq i i = true := by rw [Nat.beq_eq]
  simp [this] at x
theorem BSubs.at {σ : Sig} {fz : List Nat} : ∀ {l : List PB} {k : Nat}, BSubs σ fz hp k l → ∀ {b : Nat} {B : PB}, l[b]? = some B → BSub σ fz hp (k + b) B
 | [], k, _, b, B, h => by simp at h
 | B0 :: l, k, h, b, B, hb => by
   cases h with
   | cons h t =>
     cases b with
     | zero => simp only [List.getElem?_cons_zero, Option.some.injEq] at hb; subst hb; exact h
     | succ b =>
       simp only [List.getElem?_cons_succ] at hb
       have := t.at hb
       rwa [Nat.add_right_comm] at this
def frzF (F : Nat → Prop) (ρ : PR) (hp : PH) (fz : List Nat) : Nat → Prop := fun a => F a ∨ ∃ i B e, i ∈ fz ∧ hp[i]? = some B ∧ B ≠ .dead ∧ ρ i = some (some (a, e))
theorem vsub1_ok {σ : Sig} {fz : List Nat} (hr : Rel F ρ hp ds H) {v v' : PV} {w : Value} (hs : VSub1 σ fz hp v v') (h : PRel F ρ H v w) : PRel (frzF F ρ hp fz) (sgR σ ρ) H v' w := by
 have hle : FLe F H (frzF F ρ hp fz) H := ⟨fun _ h => .inl h, fun _ _ => rfl⟩
 induction hs generalizing w with
 | junk => exact .fr (.junk _)
 | same hn => exact .fr ((h.nl hn).mono hle)
 | s e => subst e; rw [h.s_inv]; exact .fr (.s _)
 | frz h1 h2 h3 hf =>
   subst h1
   refine .fr ?_
   cases h.frz_inv with
   | nil hn =>
     have : _ = 0 := Nat.le_zero.1 h3
     subst this
     exact .nil hn
   | frz hF hg hn hk hl hs ho hc =>
     exact .frz (hle.mono _ hF) hg h2 (Nat.le_trans h3 hk) (Nat.le_trans (Nat.add_le_add_left (Nat.mul_le_mul_right _ h3) _) hl) (fun i hi => by rw [← hf i hi]; exact hs i (by omega)) ho fun i j c v hi q1 q2 => (hc i j c v (by omega) (by rw [hf i hi]; exact q1) q2).mono hle
 | ptr e =>
   cases h with
   | fr h => cases h
   | ptr h => exact .ptr (by simp only [sgR, e]; exact h)
 | yld e =>
   cases h with
   | fr h => cases h
   | yld h => exact .yld (by simp only [sgR, e]; exact h)
 | eptr e =>
   cases h with
   | fr h => cases h
   | eptr h => exact .eptr (by simp only [sgR, e]; exact h)
 | vec e hn =>
   subst hn
   cases h with
   | fr h => cases h
   | vec h hn => exact .vec (by simp only [sgR, e]; exact h) hn
   | vecz h hn => exact .vecz (by simp only [sgR, e]; exact h) hn
 | sub e hn =>
   subst hn
   cases h with
   | fr h => cases h
   | sub h ho hl hn => exact .sub (by simp only [sgR, e]; exact h) ho hl hn
   | subz h hn => exact .subz (by simp only [sgR, e]; exact h) hn
 | exv e hn =>
   subst hn
   cases h with
   | fr h => cases h
   | exv h hn => exact .exv (by simp only [sgR, e]; exact h) hn
   | exvz h hn => exact .exvz (by simp only [sgR, e]; exact h) hn
 | tbv e hn =>
   subst hn
   cases h with
   | fr h => cases h
   | tbv h hn => exact .tbv (by simp only [sgR, e]; exact h) hn
 | que e hi hn =>
   subst hi; subst hn
   cases h with
   | fr h => cases h
   | que h => exact .que (by simp only [sgR, e]; exact h)
 | fzxc hf =>
   cases h with
   | fr h =>
     cases h with
     | fzxn => exact .fr .fzxn
     | fzx hF hg hl hs ho hc => exact .fr ((FRel.fzx hF hg hl (fun i hi => by rw [← hf i hi]; exact hs i hi) ho fun i j c v hi q1 q2 => hc i j c v hi (by rw [hf i hi]; exact q1) q2).mono hle)
 | fzxf hf =>
   cases h with
   | fr h =>
     cases h with
     | fzxn => exact .fr (.nil (.inl rfl))
     | fzx hF hg hl hs ho hc => exact .fr ((FRel.frz hF hg (Nat.le_refl _) (by omega) hl (fun i hi => by rw [← hf i hi]; exact hs i hi) ho fun i j c v hi q1 q2 => hc i j c v hi (by rw [hf i hi]; exact q1) q2).mono hle)
 | exvx hb hblk h2 hf =>
   cases h with
   | fr h => cases h
   | exvz h hn => subst hn; exact .fr .fzxn
   | exv h hn =>
     rcases hr.blk _ _ hblk with ⟨q1, q2⟩ | ⟨a, ce, vs, r1, r2, r3, r4, r5, r6, r7, r8, r9, r10⟩
     ·rw [h] at q1; cases q1
     ·rw [h] at r1; cases r1
      refine .fr (.fzx (.inr ⟨_, _, _, hb, hblk, by simp, h⟩) r3 ?_ (fun i hi => by rw [← hf i hi]; exact r9 i (by omega)) r4 fun i j c v hi q1 q2 => (r10 i j c v (by omega) (by rw [hf i hi]; exact q1) (by simpa using q2)).mono hle)
      rw [r8, Nat.zero_add]
      exact Nat.mul_le_mul_right _ (by omega)
 | nilx => rw [h.s_inv]; exact .fr .fzxn
 | nilE e => rw [h.s_inv]; exact .exvz (by simp only [sgR, e]) rfl
 | nil e => rw [h.s_inv]; exact .vecz (by simp only [sgR, e]) rfl
 | nilf => rw [h.s_inv]; exact .fr (.nil (.inl rfl))
 | vecf hb hblk h1 h2 h3 hf =>
   subst h1
   rcases hr.blk _ _ hblk with ⟨q1, q2⟩ | ⟨a, ce, vs, r1, r2, r3, r4, r5, r6, r7, r8, r9, r10⟩
   ·have hk : _ = 0 := Nat.le_zero.1 (q2 ▸ h3)
    subst hk
    have hn : _ = 0 := Nat.le_zero.1 h2
    subst hn
    cases h with
    | fr h => cases h
    | vec h hn => rw [h] at q1; cases q1
    | vecz h hn => exact .fr (.nil (.inl rfl))
   ·cases h with
    | fr h => cases h
    | vecz h hn => rw [h] at r1; cases r1
    | vec h hn =>
      rw [h] at r1; cases r1
      refine .fr (.frz (.inr ⟨_, _, _, hb, hblk, by simp, h⟩) r3 h2 (by omega) ?_ (fun i hi => by rw [← hf i hi]; exact r9 i (by omega)) r4 fun i j c v hi q1 q2 => (r10 i j c v (by omega) (by rw [hf i hi]; exact q1) (by simpa using q2)).mono hle)
      rw [r8, Nat.zero_add]
      exact Nat.mul_le_mul_right _ (by omega)
 | exvf hb hblk h1 h2 hf =>
   subst h1
   cases h with
   | fr h => cases h
   | exvz h hn => subst hn; exact .fr (.nil (.inl rfl))
   | exv h hn =>
     rcases hr.blk _ _ hblk with ⟨q1, q2⟩ | ⟨a, ce, vs, r1, r2, r3, r4, r5, r6, r7, r8, r9, r10⟩
     ·rw [h] at q1; cases q1
     ·rw [h] at r1; cases r1
      refine .fr (.frz (.inr ⟨_, _, _, hb, hblk, by simp, h⟩) r3 (Nat.le_refl _) (by omega) ?_ (fun i hi => by rw [← hf i hi]; exact r9 i (by omega)) r4 fun i j c v hi q1 q2 => (r10 i j c v (by omega) (by rw [hf i hi]; exact q1) (by simpa using q2)).mono hle)
      rw [r8, Nat.zero_add]
      exact Nat.mul_le_mul_right _ (by omega)
 | @ptrf sz k b i o off cs row hb hblk hi ho hl hn hf =>
   obtain ⟨a, e, vs, r1, r2, r3, r4, r5⟩ := hr.blk _ _ hblk
   cases h with
   | fr h => cases h
   | ptr h =>
     rw [h] at r1; cases r1
     subst ho
     have := FRel.fptr (F := frzF F ρ hp fz) (H := H) (sz := sz) (k := k) (i := i) (o := o) (row := row) (b := a) (off := 0) (.inr ⟨b, _, _, hb, hblk, by simp, h⟩) r3 hi (by rw [Nat.zero_add, ← r5.len]; exact hl) (fun i hi => by
      rw [← hf i hi, List.length_take, List.length_drop]
      have := row_le (sz := sz) hi
      omega) r4 fun i j c v hi q1 q2 => by
       rw [← hf i hi, List.getElem?_take] at q1
       split at q1
       ·rw [List.getElem?_drop] at q1
        rw [Nat.zero_add] at q2
        exact ((r5.at' _ c v q1 q2).nl (List.all_eq_true.1 hn _ (List.mem_of_getElem? q1))).mono hle
       ·cases q1
     rw [Nat.zero_add] at this
     exact .fr this
 | @vecc b n n' cs wf hb hblk hn he hw hc ih =>
   subst he
   obtain ⟨a, e, vs, r1, r2, r3, r4, r5⟩ := hr.blk _ _ hblk
   cases h with
   | fr h => cases h
   | vecz h hn => rw [h] at r1; cases r1
   | vec h hn' =>
     rw [h] at r1; cases r1
     refine .fr (.frz (.inr ⟨_, _, _, hb, hblk, by simp, h⟩) r3 (Nat.le_refl _) hn' (by rw [← r5.len]; omega) (fun i hi => rfl) r4 fun i j c v hi q1 q2 => ?_)
     have hj : j = 0 := by
      have := (List.getElem?_eq_some_iff.1 q1).1
      simpa using this
     subst hj
     simp only [List.getElem?_cons_zero, Option.some.injEq] at q1
     subst q1
     have hi' : i < cs.length := by omega
     have h1 : cs[i]? = some (cs.getD i .junk) := by rw [List.getD_eq_getElem?_getD, List.getElem?_eq_getElem hi']; rfl
     exact (ih i hi (r5.at' i _ v h1 (by simpa using q2))).nl (hw i hi)
theorem VSubs1.get {σ : Sig} {fz : List Nat} : ∀ {vs ws : List PV}, VSubs1 σ fz hp vs ws → vs.length = ws.length ∧ ∀ (j : Nat) (w : PV), ws[j]? = some w → ∃ v, vs[j]? = some v ∧ VSub1 σ fz hp v w
 | _, _, .nil => ⟨rfl, fun j w h => by simp at h⟩
 | _, _, .cons h t => by
   obtain ⟨q1, q2⟩ := t.get
   refine ⟨by simp [q1], fun j w hw => ?_⟩
   cases j with
   | zero => simp only [List.getElem?_cons_zero, Option.some.injEq] at hw; subst hw; exact ⟨_, rfl, h⟩
   | succ j => simp only [List.getElem?_cons_succ] at hw ⊢; exact q2 j w hw
theorem vsubs1_ok {σ : Sig} {fz : List Nat} (hr : Rel F ρ hp ds H) {vs ws : List PV} {l : List Value} (hs : VSubs1 σ fz hp vs ws) (hl : vs.length = l.length) (h : ∀ (j : Nat) (c : PV) (v : Value), vs[j]? = some c → l[j]? = some v → PRel F ρ H c v) : ws.length = l.length ∧ ∀ (j : Nat) (c : PV) (v : Value), ws[j]? = some c → l[j]? = some v → PRel (frzF F ρ hp fz) (sgR σ ρ) H c v := by
 obtain ⟨q1, q2⟩ := hs.get
 refine ⟨by omega, fun j c v h1 h2 => ?_⟩
 obtain ⟨u, r1, r2⟩ := q2 j c h1
 exact vsub1_ok hr r2 (h j u v r1 h2)
theorem vsub_ok {σ : Sig} {fz : List Nat} (hr : Rel F ρ hp ds H) {v v' : PV} {w : Value} (hs : VSub σ fz hp v v') (h : PRel F ρ H v w) : PRel (frzF F ρ hp fz) (sgR σ ρ) H v' w := by
 have hle : FLe F H (frzF F ρ hp fz) H := ⟨fun _ h => .inl h, fun _ _ => rfl⟩
 cases hs with
 | one hs => exact vsub1_ok hr hs h
 | agg hs =>
   obtain ⟨l, rfl, hl⟩ := h.agg_inv
   obtain ⟨q1, q2⟩ := vsubs1_ok hr hs hl.len hl.at'
   exact .agg q1 q2
 | tup hs =>
   obtain ⟨l, rfl, hl⟩ := h.tup_inv
   obtain ⟨q1, q2⟩ := vsubs1_ok hr hs hl.len hl.at'
   exact .tup q1 q2
 | fn hs hs' =>
   cases h with
   | fr h => cases h
   | fn hl h hm h' =>
     obtain ⟨q1, q2⟩ := vsubs1_ok hr hs hl h
     obtain ⟨q3, q4⟩ := vsubs1_ok hr hs' hm h'
     exact .fn q1 q2 q3 q4
 | nlv hn =>
   have : PRel F none_ H _ w := nlv_ok h hn
   exact nlv_ok (this.mono hle (fun _ _ h => h)) hn
theorem vsubs_ok {σ : Sig} {fz : List Nat} (hr : Rel F ρ hp ds H) : ∀ {vs ws : List PV} {l : List Value}, VSubs σ fz hp vs ws → PRels F ρ H vs l → PRels (frzF F ρ hp fz) (sgR σ ρ) H ws l
 | _, _, l, .nil, h => by
   have : l = [] := List.eq_nil_of_length_eq_zero (by rw [← h.len]; rfl)
   subst this; exact .nil
 | _, _, [], .cons _ _, h => by have := h.len; simp at this
 | _, _, w :: l, .cons hs t, h => .cons (vsub_ok hr hs (h.at' 0 _ _ rfl rfl)) (vsubs_ok hr t ⟨by have := h.len; simpa using this, fun j c u q1 q2 => h.at' (j + 1) c u (by simpa using q1) (by simpa using q2)⟩)
theorem weak_ok {σ : Sig} {fz : List Nat} {T' : List PV} (hr : Rel F ρ hp ds H) (hT : PRels F ρ H T Ta) (hw : Weak p σ fz T hp T' hp') : ∃ F' ρ', PExt F ρ ds H F' ρ' ds H ∧ (∀ b x, b ∈ p → ρ b = some x → ρ' b = some x) ∧ Rel F' ρ' hp' ds H ∧ PRels F' ρ' H T' Ta := by
 have hown : ∀ a, Own (sgR σ ρ) a → Own ρ a := by
  rintro a ⟨b, e, h⟩
  unfold sgR at h
  split at h
  ·exact ⟨_, e, h⟩
  ·cases h
  ·cases h
 have hFlive : ∀ a, frzF F ρ hp fz a → ¬ F a → Own ρ a := by
  rintro a (h | ⟨i, B, e, _, _, _, h⟩) hn
  ·exact absurd h hn
  ·exact ⟨i, e, h⟩
 have hnF : ∀ i B a e, hp[i]? = some B → B ≠ .dead → i ∉ fz → ρ i = some (some (a, e)) → ¬ F a → ¬ frzF F ρ hp fz a := by
  rintro i B a e h1 h2 h3 h4 h5 (h | ⟨j, C, e', q1, q2, q3, q4⟩)
  ·exact h5 h
  ·have := hr.inj i j B C a e e' h1 q2 h2 q3 h4 q4
   subst this
   exact h3 q1
 refine ⟨frzF F ρ hp fz, sgR σ ρ, ⟨Nat.le_refl _, fun _ h => .inl h, fun _ _ => rfl, fun a h => ?_, fun _ _ _ _ => rfl, fun a h => .inl (hown a h), fun _ h => .inl h⟩, fun b x hb h => ?_, ⟨?_, ?_, ?_, ?_, ?_, ?_, hr.nd⟩, vsubs_ok hr hw.vals hT⟩
 ·by_cases hF : F a
  ·exact .inl hF
  ·exact .inr (.inl (hFlive a h hF))
 ·simp only [sgR, sgKeep_at hw.keep hb]; exact h
 ·rintro a (h | ⟨i, B, e, _, _, _, h⟩)
  ·exact hr.fsz a h
  ·exact hr.own _ _ _ h
 ·intro b B hb
  have hs := hw.blks.at hb
  rw [Nat.zero_add] at hs
  cases hs with
  | dead => trivial
  | cel h hf hb' hc =>
    obtain ⟨a, e, vs, r1, r2, r3, r4, r5⟩ := hr.blk _ _ hb'
    exact ⟨a, e, vs, by simp only [sgR, h]; exact r1, hnF _ _ a e hb' (by simp) hf r1 r2, r3, r4, vsubs_ok hr hc r5⟩
  | loop h hf hb' hc =>
    obtain ⟨a, e, Ta, r1, r2, r3, r4⟩ := hr.blk _ _ hb'
    exact ⟨a, e, Ta, by simp only [sgR, h]; exact r1, hnF _ _ a e hb' (by simp) hf r1 r2, r3, vsubs_ok hr hc r4⟩
  | vec h hf hb' hn hfull hc =>
    rcases hr.blk _ _ hb' with ⟨q1, q2⟩ | ⟨a, ce, vs, r1, r2, r3, r4, r5, r6, r7, r8, r9, r10⟩
    ·exact .inl ⟨by simp only [sgR, h]; exact q1, by omega⟩
    ·refine .inr ⟨a, ce, vs, by simp only [sgR, h]; exact r1, hnF _ _ a ce hb' (by simp) hf r1 r2, r3, r4, r5, by omega, fun q => ?_, r8, fun i hi => by rw [← hc i hi]; exact r9 i (by omega), fun i j c v hi q1 q2 => (r10 i j c v (by omega) (by rw [hc i hi]; exact q1) q2).mono ⟨fun _ h => .inl h, fun _ _ => rfl⟩⟩
     obtain ⟨x1, x2⟩ := hfull q
     rw [x2]; exact r7 x1
  | nil h => exact .inl ⟨by simp only [sgR, h], rfl⟩
  | veccel h hf hb' hn hl hc =>
    rcases hr.blk _ _ hb' with ⟨q1, q2⟩ | ⟨a, ce, vs, r1, r2, r3, r4, r5, r6, r7, r8, r9, r10⟩
    ·omega
    ·have hce := r7 rfl
     refine ⟨a, ce, vs, by simp only [sgR, h]; exact r1, hnF _ _ a ce hb' (by simp) hf r1 r2, r3, r4, by omega, fun j c v q1 q2 => ?_⟩
     have hj := (List.getElem?_eq_some_iff.1 q1).1
     exact .fr ((r10 j 0 c v (by omega) (by rw [hc j c q1]; rfl) (by simpa using q2)).mono ⟨fun _ h => .inl h, fun _ _ => rfl⟩)
 ·intro b b' B B' a e e' g1 g2 d1 d2 q1 q2
  have live : ∀ b B a e, hp'[b]? = some B → B ≠ .dead → sgR σ ρ b = some (some (a, e)) → ∃ i C, σ[b]? = some (some i) ∧ hp[i]? = some C ∧ C ≠ .dead ∧ ρ i = some (some (a, e)) := by
   intro b B a e h1 h2 h3
   have hs := hw.blks.at h1
   rw [Nat.zero_add] at hs
   cases hs with
   | dead => exact absurd rfl h2
   | cel h hf hb' hc => exact ⟨_, _, h, hb', by simp, by simpa only [sgR, h] using h3⟩
   | loop h hf hb' hc => exact ⟨_, _, h, hb', by simp, by simpa only [sgR, h] using h3⟩
   | vec h hf hb' hn hfull hc => exact ⟨_, _, h, hb', by simp, by simpa only [sgR, h] using h3⟩
   | nil h => simp only [sgR, h] at h3; cases h3
   | veccel h hf hb' hn hl hc => exact ⟨_, _, h, hb', by simp, by simpa only [sgR, h] using h3⟩
  obtain ⟨i, C, x1, x2, x3, x4⟩ := live b B a e g1 d1 q1
  obtain ⟨j, D, y1, y2, y3, y4⟩ := live b' B' a e' g2 d2 q2
  have := hr.inj i j C D a e e' x2 y2 x3 y3 x4 y4
  subst this
  exact sgInj_at hw.inj x1 y1
 ·intro b hb
  rw [hw.len] at hb
  simp only [sgR, List.getElem?_eq_none hb]
 ·intro b a e h
  obtain ⟨c, e', h'⟩ := hown a ⟨b, e, h⟩
  exact hr.own _ _ _ h'
 ·intro d hd
  obtain ⟨q1, q2, q3⟩ := hr.dfr d hd
  exact ⟨q1, fun x => q3 (hFlive d x q2), fun x => q3 (hown d x)⟩
theorem p_weak (σ : Sig) (fz : List Nat) {T' : List PV} {hp' : PH} (hw : Weak p σ fz T hp T' hp') (h : PTri E inR p c T' hp' R) : PTri E inR p c T hp R := by
 intro F ρ H ds Ta hr hT
 obtain ⟨F', ρ', a1, a2, a3, a4⟩ := weak_ok hr hT hw
 exact (h F' ρ' H ds Ta a3 a4).mono fun r hg => TPost.trans a1 a2 hg
def wkQ (p : List Nat) (R : AE → List PV → PH → Prop) : AE → List PV → PH → Prop := fun e T hp => ∃ σ fz T' hp', Weak p σ fz T hp T' hp' ∧ R e T' hp'
theorem p_post (h : PTri E inR p c T hp (wkQ p R)) : PTri E inR p c T hp R := by
 intro F ρ H ds Ta hr hT
 refine (h F ρ H ds Ta hr hT).mono fun r hg => ?_
 obtain ⟨F', ρ', T', hp', a1, a2, a3, a4, σ, fz, T2, hp2, a5, a6⟩ := hg
 obtain ⟨F2, ρ2, b1, b2, b3, b4⟩ := weak_ok a3 a4 a5
 exact ⟨F2, ρ2, T2, hp2, a1.trans b1, fun b x q1 q2 => b2 b x q1 (a2 b x q1 q2), b3, b4, a6⟩
theorem call_post {f : FuncId} {args : List PV} {R : PV → PH → Prop} (h : PCall E p f args hp fun v hp' => ∃ σ fz v2 hp2, Weak p σ fz [v] hp' [v2] hp2 ∧ R v2 hp2) : PCall E p f args hp R := by
 intro F ρ H avs hr ha
 refine (h F ρ H avs hr ha).mono fun r hg => ?_
 obtain ⟨F', ρ', hp', v, a1, a2, a3, a4, σ, fz, v2, hp2, a5, a6⟩ := hg
 obtain ⟨F2, ρ2, b1, b2, b3, b4⟩ := weak_ok a3 (.cons a4 .nil) a5
 exact ⟨F2, ρ2, hp2, v2, a1.trans b1, fun b x q1 q2 => b2 b x q1 (a2 b x q1 q2), b3, b4.at' 0 _ _ rfl rfl, a6⟩
theorem PCall.mono {f : FuncId} {args : List PV} {R R' : PV → PH → Prop} (h : PCall E p f args hp R) (hq : ∀ v hp, R v hp → R' v hp) : PCall E p f args hp R' := fun F ρ H avs hr ha =>
 (h F ρ H avs hr ha).mono fun r ⟨F', ρ', hp', v, a1, a2, a3, a4, a5⟩ => ⟨F', ρ', hp', v, a1, a2, a3, a4, hq _ _ a5⟩
end
end Go.Proofs.Ytggaimcopbjdiaa.AM
namespace Go.Proofs.Ytggaimcopbjdiaa.AM
section
variable {T L : List PV} {hp : PH}
def regQ (T : List PV) (back : List (Nat × Src)) (R : List PV → PH → Prop) : List PV → PH → Prop := fun L hp => ∃ T', pback T L back T = some T' ∧ R T' hp
variable {p : List Nat}
theorem lp_next {ι : Type} {I : ι → Prop} {m : ι → Nat} {tm : ι → List PV} {hm : ι → PH} {i : ι} (j : ι) (hI : I j) {σ : Sig} {fz : List Nat} (hw : Weak p σ fz T hp (tm j) (hm j)) (hlt : m j < m i := by (try dsimp only); omega) : ∃ j, I j ∧ m j < m i ∧ ∃ σ fz, Weak p σ fz T hp (tm j) (hm j) := ⟨j, hI, hlt, σ, fz, hw⟩
end
section
variable {V : Type → Type} [Vec V] {E : Env V} {F F' F0 : Nat → Prop} {ρ ρ' ρ0 : PR} {H H' H0 : AH V} {hp hp' hp0 : PH} {ds ds' : List Nat} {T L : List PV} {Ta La : List Value} {l0 : Nat} {st st' : PS} {sn : List (AH V)} {dr : Bool} {o : AOper} {ops : List AOper} {Q : List PV → PH → Prop} {inR : Bool} {p : List Nat} {a b c : ACode} {R : AE → List PV → PH → Prop}
theorem s_reg {back : List (Nat × Src)} (h : PRg E p false T ops hp.length ⟨[], [], hp, [], 0⟩ (regQ T back fun T' hp' => PTri E inR p b T' hp' R)) : PTri E inR p (.seq (.region ops back) b) T hp R := p_seq (p_region h)
theorem s_drw {back : List (Nat × Src)} (h : PRg E p true T ops hp.length ⟨[], [], hp, [], 0⟩ (regQ T back fun T' hp' => PTri E inR p b T' hp' R)) : PTri E inR p (.seq (.draw ops back) b) T hp R := p_seq (p_draw h)
theorem e_reg {back : List (Nat × Src)} (h : PRg E p false T ops hp.length ⟨[], [], hp, [], 0⟩ (regQ T back fun T' hp' => R .norm T' hp')) : PTri E inR p (.region ops back) T hp R := p_region h
theorem e_drw {back : List (Nat × Src)} (h : PRg E p true T ops hp.length ⟨[], [], hp, [], 0⟩ (regQ T back fun T' hp' => R .norm T' hp')) : PTri E inR p (.draw ops back) T hp R := p_draw h
theorem g_run {L' : List PV} {O' : List Bool} {hp' : PH} {md' : List Nat} {c' : Nat} {q : Prop} {ops' : List AOper} (k : Nat) (hk : PRg E p dr T ops' l0 ⟨L', O', hp', md', c'⟩ Q) (h : pops dr l0 T (ops.take k) st = some (⟨L', O', hp', md', c'⟩, q) := by rfl) (hd : ops.drop k = ops' := by rfl) (hq : q := by (try simp only [in64, and_true, true_and]); (try omega)) : PRg E p dr T ops l0 st Q := prg_run k h hq (hd ▸ hk)
theorem g_end {L' : List PV} {O' : List Bool} {hp' : PH} {md' : List Nat} {c' : Nat} {q : Prop} {back : List (Nat × Src)} {T' : List PV} {K : List PV → PH → Prop} (hk : K T' hp') (h : pops dr l0 T ops st = some (⟨L', O', hp', md', c'⟩, q) := by rfl) (hb : pback T L' back T = some T' := by rfl) (hq : q := by (try simp only [in64, and_true, true_and]); (try omega)) : PRg E p dr T ops l0 st (regQ T back K) := prg_all h hq ⟨T', hb, hk⟩
theorem s_run {back : List (Nat × Src)} {L' : List PV} {O' : List Bool} {hp' : PH} {md' : List Nat} {c' : Nat} {q : Prop} {T' : List PV} (hk : PTri E inR p b T' hp' R) (h : pops false hp.length T ops ⟨[], [], hp, [], 0⟩ = some (⟨L', O', hp', md', c'⟩, q) := by rfl) (hb : pback T L' back T = some T' := by rfl) (hq : q := by (try simp only [in64, and_true, true_and]); (try omega)) : PTri E inR p (.seq (.region ops back) b) T hp R := s_reg (prg_all h hq ⟨T', hb, hk⟩)
theorem d_run {back : List (Nat × Src)} {L' : List PV} {O' : List Bool} {hp' : PH} {md' : List Nat} {c' : Nat} {q : Prop} {T' : List PV} (hk : PTri E inR p b T' hp' R) (h : pops true hp.length T ops ⟨[], [], hp, [], 0⟩ = some (⟨L', O', hp', md', c'⟩, q) := by rfl) (hb : pback T L' back T = some T' := by rfl) (hq : q := by (try simp only [in64, and_true, true_and]); (try omega)) : PTri E inR p (.seq (.draw ops back) b) T hp R := s_drw (prg_all h hq ⟨T', hb, hk⟩)
theorem e_run {back : List (Nat × Src)} {L' : List PV} {O' : List Bool} {hp' : PH} {md' : List Nat} {c' : Nat} {q : Prop} {T' : List PV} (hk : R .norm T' hp') (h : pops false hp.length T ops ⟨[], [], hp, [], 0⟩ = some (⟨L', O', hp', md', c'⟩, q) := by rfl) (hb : pback T L' back T = some T' := by rfl) (hq : q := by (try simp only [in64, and_true, true_and]); (try omega)) : PTri E inR p (.region ops back) T hp R := p_region (prg_all h hq ⟨T', hb, hk⟩)
theorem ed_run {back : List (Nat × Src)} {L' : List PV} {O' : List Bool} {hp' : PH} {md' : List Nat} {c' : Nat} {q : Prop} {T' : List PV} (hk : R .norm T' hp') (h : pops true hp.length T ops ⟨[], [], hp, [], 0⟩ = some (⟨L', O', hp', md', c'⟩, q) := by rfl) (hb : pback T L' back T = some T' := by rfl) (hq : q := by (try simp only [in64, and_true, true_and]); (try omega)) : PTri E inR p (.draw ops back) T hp R := p_draw (prg_all h hq ⟨T', hb, hk⟩)
theorem s_ass (h : PTri E inR p (.seq a (.seq b c)) T hp R) : PTri E inR p (.seq (.seq a b) c) T hp R := by
 intro F ρ H ds Ta hr hT
 exact seq_assoc (h F ρ H ds Ta hr hT)
theorem s_cond {s : Src} {k : ACode} {t : Bool} (h1 : t = true → PTri E inR p (.seq a k) T hp R) (h2 : t = false → PTri E inR p (.seq b k) T hp R) (hc : psev T [] s = some (.s (.bool t)) := by rfl) : PTri E inR p (.seq (.cond s a b) k) T hp R := by
 intro F ρ H ds Ta hr hT
 refine seq_cond t (s_of (sev_ok hT .nil) hc) ?_
 cases t with
 | true => exact h1 rfl F ρ H ds Ta hr hT
 | false => exact h2 rfl F ρ H ds Ta hr hT
theorem e_cond {s : Src} {t : Bool} (h1 : t = true → PTri E inR p a T hp R) (h2 : t = false → PTri E inR p b T hp R) (hc : psev T [] s = some (.s (.bool t)) := by rfl) : PTri E inR p (.cond s a b) T hp R := p_cond hc h1 h2
theorem s_t {s : Src} {k : ACode} (h : PTri E inR p (.seq a k) T hp R) (hc : psev T [] s = some (.s (.bool true)) := by rfl) : PTri E inR p (.seq (.cond s a b) k) T hp R := s_cond (t := true) (fun _ => h) (fun h => nomatch h) hc
theorem s_f {s : Src} {k : ACode} (h : PTri E inR p (.seq b k) T hp R) (hc : psev T [] s = some (.s (.bool false)) := by rfl) : PTri E inR p (.seq (.cond s a b) k) T hp R := s_cond (t := false) (fun h => nomatch h) (fun _ => h) hc
theorem e_t {s : Src} (h : PTri E inR p a T hp R) (hc : psev T [] s = some (.s (.bool true)) := by rfl) : PTri E inR p (.cond s a b) T hp R := p_cond hc (fun _ => h) (fun h => nomatch h)
theorem e_f {s : Src} (h : PTri E inR p b T hp R) (hc : psev T [] s = some (.s (.bool false)) := by rfl) : PTri E inR p (.cond s a b) T hp R := p_cond hc (fun h => nomatch h) (fun _ => h)
theorem s_skip {k : ACode} (h : PTri E inR p k T hp R) : PTri E inR p (.seq .skip k) T hp R := p_seq (p_skip h)
theorem s_label {k : ACode} {l : Nat} (h : PTri E inR p k T hp R) : PTri E inR p (.seq (.label l) k) T hp R := p_seq (p_label h)
theorem s_ret {k : ACode} (h : R .ret T hp) : PTri E inR p (.seq .ret k) T hp R := p_seq (p_ret h)
theorem s_exit {k : ACode} {id : Nat} (h : R (.exit id) T hp) : PTri E inR p (.seq (.exit id) k) T hp R := p_seq (p_exit h)
theorem s_block {k : ACode} {id : Nat} (h : PTri E inR p a T hp (blkQ id (seqQ E inR p k R))) : PTri E inR p (.seq (.block id a) k) T hp R := p_seq (p_block h)
def cutQ (P : List PV → PH → Prop) : AE → List PV → PH → Prop := fun e T hp => e = .norm ∧ P T hp
theorem s_cut (P : List PV → PH → Prop) (h : PTri E inR p a T hp (cutQ P)) (hk : ∀ T' hp', P T' hp' → PTri E inR p b T' hp' R) : PTri E inR p (.seq a b) T hp R :=
 p_seq (h.mono fun e T' hp' hq => by obtain ⟨rfl, hq⟩ := hq; exact hk T' hp' hq)
theorem wk (σ : Sig) (fz : List Nat) (T' : List PV) (hp' : PH) (len : hp'.length = σ.length := by rfl) (keep : sgKeep p σ = true := by rfl) (inj : sgInj σ = true := by rfl) (vals : VSubs σ fz hp T T' := by (repeat' (first | exact VSubs.nil | apply VSubs.cons | exact VSub.one (VSub1.junk _) | exact VSub.nlv rfl | exact VSub.one (VSub1.vec rfl rfl) | exact VSub.one (VSub1.ptr rfl) | exact VSub.one (VSub1.nil rfl) | exact VSub.one VSub1.nilf | exact VSub.one (VSub1.eptr rfl) | exact VSub.one (VSub1.sub rfl rfl) | apply VSub.fn | apply VSub.agg | apply VSub.tup | exact VSubs1.nil | apply VSubs1.cons | exact VSub1.junk _ | exact VSub1.same rfl | exact VSub1.vec rfl rfl | exact VSub1.ptr rfl))) (blks : BSubs σ fz hp 0 hp' := by (repeat' (first | exact BSubs.nil | apply BSubs.cons | exact BSub.dead | exact BSub.vec rfl (by decide) rfl (Nat.le_refl _) (fun h => ⟨h, rfl⟩) (fun _ _ => rfl) | (refine BSub.cel rfl (by decide) rfl ?_) | exact BSub.nil rfl | exact VSubs.nil | apply VSubs.cons | exact VSub.one (VSub1.junk _) | exact VSub.nlv rfl | exact VSub.one (VSub1.vec rfl rfl) | exact VSub.one (VSub1.ptr rfl) | exact VSub.one (VSub1.nil rfl)))) : Weak p σ fz T hp T' hp' := ⟨len, keep, inj, vals, blks⟩
def lpQ {ι : Type} (p : List Nat) (I : ι → Prop) (m : ι → Nat) (tm : ι → List PV) (hm : ι → PH) (i : ι) (R : AE → List PV → PH → Prop) : AE → List PV → PH → Prop := fun e T hp => match e with
 | .norm => ∃ j, I j ∧ m j < m i ∧ ∃ σ fz, Weak p σ fz T hp (tm j) (hm j)
 | e => R e T hp
theorem p_loop' {ι : Type} (I : ι → Prop) (m : ι → Nat) (tm : ι → List PV) (hm : ι → PH) (i0 : ι) (hi : I i0)
  (h : ∀ i, I i → PTri E inR p a (tm i) (hm i) (lpQ p I m tm hm i R)) : PTri E inR p (.loop a) (tm i0) (hm i0) R := by
 refine p_loop (fun n T hp => ∃ i, m i = n ∧ I i ∧ T = tm i ∧ hp = hm i) (m i0) ⟨i0, rfl, hi, rfl, rfl⟩ ?_
 rintro n T hp ⟨i, rfl, h1, rfl, rfl⟩
 intro F ρ H ds Ta hr hT
 refine (h i h1 F ρ H ds Ta hr hT).mono fun r hg => ?_
 obtain ⟨e, T1, H1, ds1, v1⟩ := r
 obtain ⟨F', ρ', T', hp', a1, a2, a3, a4, a5⟩ := hg
 cases e with
 | norm =>
   obtain ⟨j, q1, q2, σ, fz, hw⟩ := a5
   obtain ⟨F2, ρ2, b1, b2, b3, b4⟩ := weak_ok a3 a4 hw
   exact ⟨F2, ρ2, tm j, hm j, a1.trans b1, fun b x y1 y2 => b2 b x y1 (a2 b x y1 y2), b3, b4, m j, q2, j, rfl, q1, rfl, rfl⟩
 | _ => exact ⟨F', ρ', T', hp', a1, a2, a3, a4, a5⟩
theorem s_loop {ι : Type} {k : ACode} {id : Nat} (I : ι → Prop) (m : ι → Nat) (tm : ι → List PV) (hm : ι → PH) (i0 : ι) (hi : I i0) {σ : Sig} {fz : List Nat} (hw : Weak p σ fz T hp (tm i0) (hm i0))
  (h : ∀ i, I i → PTri E inR p a (tm i) (hm i) (lpQ p I m tm hm i (blkQ id (seqQ E inR p k R)))) : PTri E inR p (.seq (.block id (.loop a)) k) T hp R :=
 p_seq (p_block (p_weak σ fz hw (p_loop' I m tm hm i0 hi h)))
theorem e_loop {ι : Type} {id : Nat} (I : ι → Prop) (m : ι → Nat) (tm : ι → List PV) (hm : ι → PH) (i0 : ι) (hi : I i0) {σ : Sig} {fz : List Nat} (hw : Weak p σ fz T hp (tm i0) (hm i0))
  (h : ∀ i, I i → PTri E inR p a (tm i) (hm i) (lpQ p I m tm hm i (blkQ id R))) : PTri E inR p (.block id (.loop a)) T hp R :=
 p_block (p_weak σ fz hw (p_loop' I m tm hm i0 hi h))
theorem prg_isnil {x : Src} {gd : Option (Src × Bool)} {lo : Nat} {neg : Bool} {sz n k : Nat} {row : Nat → List PV} (hx : psev T st.L x = some (.frz sz n k row)) (hw : pwanted T st.L gd = some true)
  (h : ∀ t : Bool, (t = true → n = 0 ∧ k = 0) → PRg E p dr T ops l0 ⟨.s (.bool (t != neg)) :: st.L, false :: st.O, st.hp, st.md, st.cnt⟩ Q) : PRg E p dr T (⟨.eqn 0 neg x (.const (.slice none 0 0)), gd, lo⟩ :: ops) l0 st Q := by
 intro F0 ρ0 hp0 H0 F ρ H ds Ta La sn hr hd
 have hev := sev_ok (hd.T.mono hd.fle hd.rle) hd.L
 obtain ⟨w, h1, h2⟩ := hev _ _ hx
 have key : ∃ t : Bool, fEqn 0 neg w (.slice none 0 0) = some (.bool (t != neg)) ∧ (t = true → n = 0 ∧ k = 0) := by
  cases h2.frz_inv with
  | nil hn =>
    rcases hn with rfl | ⟨b, o, s, ce, rfl⟩
    ·exact ⟨true, rfl, fun _ => ⟨rfl, rfl⟩⟩
    ·exact ⟨false, rfl, fun h => by cases h⟩
  | frz => exact ⟨false, rfl, fun h => by cases h⟩
 obtain ⟨t, k1, k2⟩ := key
 refine prg_does hr hd (wanted_ok hev hw) (does_op (.bool (t != neg)) H ?_ ⟨F, ρ, _, st.hp, .refl, fun _ _ h => h, hr, .fr (.s _), false, st.md, fun _ h => h, (fun h => nomatch h), fun _ _ _ _ _ _ _ _ => rfl, fun _ _ _ _ h => h, (fun _ => rfl), h t k2⟩)
 show withH H (x2 (fEqn 0 neg) (sev Ta La) x (.const (.slice none 0 0))) = _
 have hc : sev Ta La (.const (.slice none 0 0)) = some (.slice none 0 0) := rfl
 simp only [x2, h1, hc, k1, withH]
def toV : PV → Option Value
 | .s v => some v
 | .agg cs => (match mapOpt (fun c => match c with | .s v => some v | _ => none) cs with | some l => some (.agg l.toArray) | none => none)
 | _ => none
theorem toVs_ok : ∀ {cs : List PV} {l : List Value} {ws : List Value}, mapOpt (fun c => match c with | PV.s v => some v | _ => none) cs = some l → PRels F ρ H cs ws → ws = l
 | [], l, ws, h, hr => by
   cases h
   exact List.eq_nil_of_length_eq_zero (by rw [← hr.len]; rfl)
 | c :: cs, l, [], h, hr => by have := hr.len; simp at this
 | c :: cs, l, w :: ws, h, hr => by
   simp only [mapOpt] at h
   split at h
   ·next y e =>
    split at h
    ·next ys e' =>
     cases h
     have h1 := hr.at' 0 c w rfl rfl
     have h2 := toVs_ok e' (ws := ws) ⟨by have := hr.len; simpa using this, fun j c u q1 q2 => hr.at' (j + 1) c u (by simpa using q1) (by simpa using q2)⟩
     subst h2
     split at e
     ·next v => cases e; rw [h1.s_inv]
     ·cases e
    ·cases h
   ·cases h
theorem toV_ok {v : PV} {u w : Value} (h : toV v = some u) (hr : PRel F ρ H v w) : w = u := by
 unfold toV at h
 split at h
 ·cases h; exact hr.s_inv
 ·next cs =>
  split at h
  ·next l e =>
   cases h
   obtain ⟨l', rfl, hl⟩ := hr.agg_inv
   rw [toVs_ok e hl]
  ·cases h
 ·cases h
theorem prg_flat {fo : FOp} {xs : List Src} {gd : Option (Src × Bool)} {lo : Nat} {vs : List PV} {us : List Value} {v : Value} (hx : pevs (psev T st.L) xs = some vs) (hu : mapOpt toV vs = some us) (hw : pwanted T st.L gd = some true) (hv : aflat E.P fo us = some v)
  (h : PRg E p dr T ops l0 ⟨.s v :: st.L, false :: st.O, st.hp, st.md, st.cnt⟩ Q) : PRg E p dr T (⟨.flat fo xs, gd, lo⟩ :: ops) l0 st Q := by
 intro F0 ρ0 hp0 H0 F ρ H ds Ta La sn hr hd
 have hev := sev_ok (hd.T.mono hd.fle hd.rle) hd.L
 obtain ⟨ws, h1, h2⟩ := evs_ok hev hx
 have key : ∀ {vs : List PV} {us ws : List Value}, mapOpt toV vs = some us → PRels F ρ H vs ws → ws = us := by
  intro vs
  induction vs with
  | nil =>
    intro us ws h hr
    cases h
    exact List.eq_nil_of_length_eq_zero (by rw [← hr.len]; rfl)
  | cons c cs ih =>
    intro us ws h hr
    cases ws with
    | nil => have := hr.len; simp at this
    | cons w ws =>
      simp only [mapOpt] at h
      split at h
      ·next y e =>
       split at h
       ·next ys e' =>
        cases h
        rw [toV_ok e (hr.at' 0 c w rfl rfl), ih e' (ws := ws) ⟨by have := hr.len; simpa using this, fun j c u q1 q2 => hr.at' (j + 1) c u (by simpa using q1) (by simpa using q2)⟩]
       ·cases h
      ·cases h
 have hws := key hu h2
 subst hws
 refine prg_does hr hd (wanted_ok hev hw) (does_op v H ?_ ⟨F, ρ, _, st.hp, .refl, fun _ _ h => h, hr, .fr (.s _), false, st.md, fun _ h => h, (fun h => nomatch h), fun _ _ _ _ _ _ _ _ => rfl, fun _ _ _ _ h => h, (fun _ => rfl), h⟩)
 simp only [aexec, Go.Proofs.Ytggaimcopbjdiaa.AM.xs, h1, hv, withH]
theorem fin {R : PV → PH → Prop} {res : List ARes} {vs : List PV} {q : Prop} {e : AE} (hR : R (ppack vs) hp) (he : e = .norm ∨ e = .ret := by first | exact .inr rfl | exact .inl rfl) (h : pres T hp res = some (vs, q) := by rfl) (hq : q := by (try simp only [and_true]); (try omega)) : retQ res R e T hp := ⟨he, vs, q, h, hq, hR⟩
def ansQ (R : PV → Prop) : PV → PH → Prop := fun v hp => ∃ fz v2, VSub [] fz hp v v2 ∧ R v2
def valQ (R : PV → Prop) : PV → PH → Prop := fun v hp => hp = [] ∧ R v
def isV (v : PV) : PV → Prop := fun u => u = v
theorem fin_v {w : PV} {res : List ARes} {vs : List PV} {q : Prop} {e : AE} (he : e = .norm ∨ e = .ret := by first | exact .inr rfl | exact .inl rfl) (h : pres T hp res = some (vs, q) := by rfl) (hq : q := by (try simp only [and_true]); (try omega)) (hv : ppack vs = w := by rfl) (hn : nlv w = true := by rfl) : retQ res (ansQ (isV w)) e T hp := ⟨he, vs, q, h, hq, [], w, by subst hv; exact .nlv hn, rfl⟩
theorem fin_r {w : PV} {R : PV → Prop} {res : List ARes} {vs : List PV} {q : Prop} {e : AE} (hR : R w) (he : e = .norm ∨ e = .ret := by first | exact .inr rfl | exact .inl rfl) (h : pres T hp res = some (vs, q) := by rfl) (hq : q := by (try simp only [and_true]); (try omega)) (hv : ppack vs = w := by rfl) (hn : nlv w = true := by rfl) : retQ res (ansQ R) e T hp := ⟨he, vs, q, h, hq, [], w, by subst hv; exact .nlv hn, hR⟩
theorem fin_z {w : PV} {R : PV → Prop} {res : List ARes} {vs : List PV} {q : Prop} {e : AE} (fz : List Nat) (hR : R w) (hz : ∀ v, v = ppack vs → VSub [] fz hp v w) (he : e = .norm ∨ e = .ret := by first | exact .inr rfl | exact .inl rfl) (h : pres T hp res = some (vs, q) := by rfl) (hq : q := by (try simp only [and_true]); (try omega)) : retQ res (ansQ R) e T hp := ⟨he, vs, q, h, hq, fz, w, hz _ rfl, hR⟩
theorem prg_head {v v' : PV} {L : List PV} {O : List Bool} {md : List Nat} {cnt : Nat} (e : v = v') (h : PRg E p dr T ops l0 ⟨v' :: L, O, hp, md, cnt⟩ Q) : PRg E p dr T ops l0 ⟨v :: L, O, hp, md, cnt⟩ Q := e ▸ h
def rowI (k : IntKind) (xs : List Int) : Nat → List PV := fun i => [.s (.int k (xs.getD i 0))]
def rowB (xs : List Bool) : Nat → List PV := fun i => [.s (.bool (xs.getD i false))]
def encI (xs : List Int) : PV := .frz 1 xs.length xs.length (rowI .i64 xs)
def encU (xs : List Int) : PV := .frz 1 xs.length xs.length (rowI .u64 xs)
def encB (xs : List Bool) : PV := .frz 1 xs.length xs.length (rowB xs)
theorem p_fun {f : FuncId} {fn : AFunc} {args : List PV} {R : PV → Prop} (h : PTri E false [] fn.body (fn.keep.map fun t => (args[t]?).getD .junk) [] (retQ fn.res (ansQ R))) (hx : ∀ avs (H : AH V), E.ext f avs H = none := by exact fun _ _ => rfl) (hf : E.fn f = some fn := by rfl) : PFun E f args (valQ R) := by
 refine call_post (PCall.mono (p_call hx hf h) ?_)
 rintro v hp ⟨fz, v2, h1, h2⟩
 exact ⟨[], fz, v2, [], ⟨rfl, rfl, rfl, .cons h1 .nil, .nil⟩, rfl, h2⟩
theorem g_call {fs : Src} {args : List Src} {gd : Option (Src × Bool)} {lo : Nat} {g : FuncId} {first cap vs as_ : List PV} {R : PV → Prop} (hc : PFun E g as_ (valQ R)) (hk : ∀ v, R v → nlv v = true ∧ PRg E p dr T ops l0 ⟨v :: st.L, false :: st.O, st.hp, st.md, st.cnt + 1⟩ Q)
  (h1 : psev T st.L fs = some (.fn g first cap) := by rfl) (h2 : pevs (psev T st.L) args = some vs := by rfl) (ha : first ++ vs ++ cap = as_ := by rfl) (h3 : as_.all nlv = true := by rfl) (hw : pwanted T st.L gd = some true := by rfl) : PRg E p dr T (⟨.call fs args, gd, lo⟩ :: ops) l0 st Q := by
 subst ha
 refine prg_call h1 h2 h3 hw hc ?_
 rintro v hpc ⟨rfl, hv⟩
 obtain ⟨k1, k2⟩ := hk v hv
 have hp0 : ∀ {w : PV}, nlb w = true → psh0 st.hp.length w = w := fun {w} hw => by cases w <;> first | rfl | cases hw
 have hmap : ∀ {cs : List PV}, cs.all nlb = true → cs.map (psh0 st.hp.length) = cs := fun {cs} hcs => by
  induction cs with
  | nil => rfl
  | cons c cs ih =>
    simp only [List.all_cons, Bool.and_eq_true] at hcs
    rw [List.map_cons, hp0 hcs.1, ih hcs.2]
 have hfl : ∀ {cs : List PV}, cs.all nlb = true → cs.all flat0 = true := fun {cs} hcs => List.all_eq_true.2 fun c hc => by
  have := List.all_eq_true.1 hcs c hc
  cases c <;> first | rfl | cases this
 have hsh : pshift st.hp.length v = v ∧ shOk v = true := by
  cases v with
  | agg cs => exact ⟨by simp only [pshift, hmap k1], hfl k1⟩
  | tup cs =>
    have hA : ∀ c, c ∈ cs → psh0 st.hp.length c = c ∧ (flat0 c || nlv c) = true := fun c hc => by
     have := List.all_eq_true.1 k1 c hc
     cases c <;> first | exact ⟨rfl, rfl⟩ | cases this | (refine ⟨rfl, ?_⟩; simp only [nlA] at this; simp only [nlv, this, Bool.or_true])
    exact ⟨by simp only [pshift]; rw [List.map_congr_left fun c hc => (hA c hc).1, List.map_id'], List.all_eq_true.2 fun c hc => (hA c hc).2⟩
  | fn f a c => exact ⟨rfl, k1⟩
  | junk => exact ⟨rfl, rfl⟩
  | _ => first | exact ⟨rfl, rfl⟩ | cases k1
 refine ⟨hsh.2, rfl, ?_⟩
 rw [hsh.1, List.append_nil]
 exact k2
theorem g_icall {fs : Src} {args : List Src} {gd : Option (Src × Bool)} {lo : Nat} {g : FuncId} {first cap vs as_ : List PV} {Qf : PV → PH → Prop} (hc : PCall E (List.range st.hp.length) g as_ st.hp Qf) (hk : ∀ v hp', Qf v hp' → PRg E p dr T ops l0 ⟨v :: st.L, false :: st.O, hp', List.range st.hp.length ++ st.md, st.cnt + 1⟩ Q)
  (h1 : psev T st.L fs = some (.fn g first cap) := by rfl) (h2 : pevs (psev T st.L) args = some vs := by rfl) (ha : first ++ vs ++ cap = as_ := by rfl) (hw : pwanted T st.L gd = some true := by rfl) : PRg E p dr T (⟨.call fs args, gd, lo⟩ :: ops) l0 st Q := by
 subst ha
 exact prg_icall h1 h2 hw hc hk
end
end Go.Proofs.Ytggaimcopbjdiaa.AM
namespace Go.Proofs.Ytggaimcopbjdiaa.AM
theorem VSubs.same {σ : Sig} {fz : List Nat} {hp : PH} : ∀ {cs : List PV}, cs.all nlv = true → VSubs σ fz hp cs cs
 | [], _ => .nil
 | c :: cs, h => by
   simp only [List.all_cons, Bool.and_eq_true] at h
   exact .cons (.nlv h.1) (VSubs.same h.2)
theorem bs_cel {σ : Sig} {fz : List Nat} {hp : PH} {b i : Nat} {cs : List PV} (hn : cs.all nlv = true := by rfl) (h : σ[b]? = some (some i) := by rfl) (hf : i ∉ fz := by decide) (hb : hp[i]? = some (.cel cs) := by rfl) : BSub σ fz hp b (.cel cs) := .cel h hf hb (.same hn)
theorem bs_vec {σ : Sig} {fz : List Nat} {hp : PH} {b i sz n n' : Nat} {f f' : Nat → List PV} {full full' : Bool} (hn : n' = n) (hc : ∀ i, i < n' → f i = f' i) (h : σ[b]? = some (some i) := by rfl) (hf : i ∉ fz := by decide) (hb : hp[i]? = some (.vec sz n f full) := by rfl) (hfl : full = full' := by rfl) : BSub σ fz hp b (.vec sz n' f' full') := .vec h hf hb (Nat.le_of_eq hn) (fun x => ⟨hfl.trans x, hn⟩) hc
theorem bs_same {σ : Sig} {fz : List Nat} {hp : PH} {b i sz n : Nat} {f : Nat → List PV} {full : Bool} (h : σ[b]? = some (some i) := by rfl) (hf : i ∉ fz := by decide) (hb : hp[i]? = some (.vec sz n f full) := by rfl) : BSub σ fz hp b (.vec sz n f full) := bs_vec rfl (fun _ _ => rfl) h hf hb rfl
def row1 {α : Type} (en : α → PV) (d : α) (xs : List α) : Nat → List PV := fun i => [en (xs.getD i d)]
theorem row1_set {α : Type} {en : α → PV} {d : α} {xs : List α} {c : Nat} {x : α} (v : PV) (hv : pcs v = [en x]) {i : Nat} (hi : i < xs.length) : (if i = c then psplice (row1 en d xs i) 0 (pcs v) else row1 en d xs i) = row1 en d (xs.set c x) i := by
 rw [hv]
 by_cases h : i = c
 ·subst h
  rw [if_pos rfl]
  simp [row1, psplice, List.getD_eq_getElem?_getD, hi]
 ·rw [if_neg h]
  simp only [row1, List.getD_eq_getElem?_getD, List.getElem?_set_ne (Ne.symm h)]
theorem row1_app {α : Type} {en : α → PV} {d : α} {xs ys : List α} {i : Nat} {f g : Nat → List PV} (hf : ∀ i, i < xs.length → f i = row1 en d xs i) (hg : ∀ i, i < ys.length → g i = row1 en d ys i) (hi : i < xs.length + ys.length) : (if i < xs.length then f i else g (i - xs.length)) = row1 en d (xs ++ ys) i := by
 by_cases h : i < xs.length
 ·rw [if_pos h, hf i h]
  simp only [row1, List.getD_eq_getElem?_getD, List.getElem?_append_left h]
 ·rw [if_neg h, hg _ (by omega)]
  simp only [row1, List.getD_eq_getElem?_getD, List.getElem?_append_right (Nat.le_of_not_lt h)]
theorem row1_one {α : Type} {en : α → PV} {d x : α} (i : Nat) (hi : i < [x].length) : ([en x].drop (i * 1)).take 1 = row1 en d [x] i := by
 have : i = 0 := by simpa using hi
 subst this; rfl
theorem row1_push {α : Type} {en : α → PV} {d x : α} {xs : List α} {i : Nat} (hi : i < xs.length + 1) : (if i < xs.length then row1 en d xs i else ([en x].drop ((i - xs.length) * 1)).take 1) = row1 en d (xs ++ [x]) i :=
 row1_app (g := fun i => ([en x].drop (i * 1)).take 1) (fun _ _ => rfl) (fun i hi => row1_one i hi) hi
theorem rowB_eq (xs : List Bool) : rowB xs = row1 (fun b => .s (.bool b)) false xs := rfl
theorem rowB_rep (n i : Nat) : [PV.s (.bool false)] = rowB (List.replicate n false) i := by
 simp only [rowB, List.getD_eq_getElem?_getD, List.getElem?_replicate]
 split <;> rfl
end Go.Proofs.Ytggaimcopbjdiaa.AM
namespace Go.Proofs.Ytggaimcopbjdiaa.AM
def pset : List PV → List (Option Nat) → List PV → Option (List PV)
 | T, [], [] => some T
 | T, some p :: ps, v :: vs => pset (T.set p v) ps vs
 | T, none :: ps, _ :: vs => pset T ps vs
 | _, _, _ => none
def endSt (e : AE) : LoopState × Option AE := match e with
 | .norm => (.ready, none)
 | e => (.done, some e)
def ranges : ACode → List (List (Option Nat) × ACode × ACode)
 | .seq a b => ranges a ++ ranges b
 | .cond _ a b => ranges a ++ ranges b
 | .block _ b => ranges b
 | .loop b => ranges b
 | .scope b => ranges b
 | .rangeFunc _ ps a b => [(ps, a, b)]
 | _ => []
def rg (c : ACode) (k : Nat) : List (Option Nat) × ACode × ACode := ((ranges c)[k]?).getD ([], .bad, .bad)
def lrec (c : ACode) (k : Nat) (T : List PV) (st : LoopState) (pend : Option AE) : PB := .loop T (rg c k).1 (rg c k).2.1 (rg c k).2.2 st pend
section
variable {V : Type → Type} [Vec V] {E : Env V} {F F' F0 : Nat → Prop} {ρ ρ' ρ0 : PR} {H H' H0 : AH V} {hp hp' hp0 : PH} {ds ds' : List Nat} {T L : List PV} {Ta La : List Value} {l0 : Nat} {st st' : PS} {sn : List (AH V)} {dr : Bool} {o : AOper} {ops : List AOper} {Q : List PV → PH → Prop} {inR : Bool} {p : List Nat} {a b c : ACode} {R : AE → List PV → PH → Prop}
def DsKept (t : Task V) (r : Res V) : Prop := match t with
 | .code true _ _ _ ds => r.ds = ds
 | .scope true _ _ _ _ ds => r.ds = ds
 | _ => True
theorem ds_keep : ∀ (n : Nat) (t : Task V) (r : Res V), arun E n t = some r → DsKept t r
 | 0, t, r, h => by cases h
 | n + 1, t, r, h => by
   have ih : ∀ (t : Task V) (r : Res V), arun E n t = some r → DsKept t r := ds_keep n
   have seqCase : ∀ {a b : ACode} {T : AT} {H : AH V} {ds : List Nat} {t : Task V}, sSeq (arun E n) true b (arun E n (.code true a T H ds)) = some r → r.ds = ds := by
    intro a b T H ds t hs
    cases ha : arun E n (.code true a T H ds) with
    | none => rw [ha] at hs; cases hs
    | some ra =>
      have h1 : ra.ds = ds := ih _ _ ha
      obtain ⟨e, T1, H1, ds1, v1⟩ := ra
      simp only at h1
      subst h1
      rw [ha] at hs
      cases e
      ·exact ih _ _ hs
      all_goals (cases hs; rfl)
   cases t with
   | call f args H => trivial
   | round l args H => trivial
   | scope inR b cur T H ds =>
     cases inR with
     | false => trivial
     | true =>
       replace h : sScope (arun E n) true b (arun E n (.code true cur T H ds)) = some r := h
       show r.ds = ds
       cases ha : arun E n (.code true cur T H ds) with
       | none => rw [ha] at h; cases h
       | some ra =>
         have h1 : ra.ds = ds := ih _ _ ha
         obtain ⟨e, T1, H1, ds1, v1⟩ := ra
         simp only at h1
         subst h1
         rw [ha] at h
         cases e with
         | goto l =>
           simp only [sScope] at h
           split at h
           ·exact ih _ _ h
           ·cases h; rfl
         | _ => cases h; rfl
   | code inR c T H ds =>
     cases inR with
     | false => trivial
     | true =>
       show r.ds = ds
       replace h : sCode E (arun E n) true c T H ds = some r := h
       cases c with
       | bad => cases h
       | skip => cases h; rfl
       | ret => cases h; rfl
       | exit id => cases h; rfl
       | label l => cases h; rfl
       | goto l => cases h; rfl
       | seq a b => exact seqCase (t := .call 0 [] H) h
       | loop b => exact seqCase (t := .call 0 [] H) h
       | cond c a b =>
         simp only [sCode, sCond] at h
         split at h
         ·exact ih _ _ h
         ·cases h
       | block id b =>
         simp only [sCode] at h
         cases ha : arun E n (.code true b T H ds) with
         | none => rw [ha] at h; cases h
         | some ra =>
           have h1 : ra.ds = ds := ih _ _ ha
           obtain ⟨e, T1, H1, ds1, v1⟩ := ra
           simp only at h1
           subst h1
           rw [ha] at h
           cases e with
           | exit i =>
             simp only [sBlock] at h
             cases hb : Nat.beq i id <;> rw [hb] at h <;> cases h <;> rfl
           | _ => cases h; rfl
       | scope b => exact ih _ _ h
       | rangeFunc g ps as_ bd => simp [sCode, sRange] at h
       | region ops back =>
         simp only [sCode, sRegion] at h
         split at h
         ·split at h
          ·cases h; rfl
          ·cases h
         ·cases h
       | draw ops back =>
         simp only [sCode, sRegion] at h
         split at h
         ·split at h
          ·cases h; rfl
          ·cases h
         ·cases h
theorem runs_ds {c : ACode} {T : AT} {H : AH V} {ds : List Nat} {Q : Res V → Prop} (h : ARuns E (.code true c T H ds) Q) : ARuns E (.code true c T H ds) fun r => r.ds = ds ∧ Q r := by
 obtain ⟨n, r, h1, h2⟩ := h
 exact ⟨n, r, h1, ds_keep n _ _ h1, h2⟩
theorem pset_ok : ∀ {T : List PV} {Ta : List Value} {ps : List (Option Nat)} {vs : List PV} {ws : List Value} {T1 : List PV}, PRels F ρ H T Ta → PRels F ρ H vs ws → pset T ps vs = some T1 → ∃ T1a, setParams Ta ps ws = some T1a ∧ PRels F ρ H T1 T1a
 | T, Ta, [], [], ws, T1, hT, hv, h => by
   have : ws = [] := List.eq_nil_of_length_eq_zero (by rw [← hv.len]; rfl)
   subst this
   cases h
   exact ⟨Ta, rfl, hT⟩
 | T, Ta, some p :: ps, v :: vs, [], T1, hT, hv, h => by have := hv.len; simp at this
 | T, Ta, none :: ps, v :: vs, [], T1, hT, hv, h => by have := hv.len; simp at this
 | T, Ta, some p :: ps, v :: vs, w :: ws, T1, hT, hv, h => by
   have ht : PRels F ρ H vs ws := ⟨by have := hv.len; simpa using this, fun j c u q1 q2 => hv.at' (j + 1) c u (by simpa using q1) (by simpa using q2)⟩
   obtain ⟨T1a, r1, r2⟩ := pset_ok (hT.set (n := p) (hv.at' 0 v w rfl rfl)) ht h
   exact ⟨T1a, r1, r2⟩
 | T, Ta, none :: ps, v :: vs, w :: ws, T1, hT, hv, h => by
   have ht : PRels F ρ H vs ws := ⟨by have := hv.len; simpa using this, fun j c u q1 q2 => hv.at' (j + 1) c u (by simpa using q1) (by simpa using q2)⟩
   obtain ⟨T1a, r1, r2⟩ := pset_ok hT ht h
   exact ⟨T1a, r1, r2⟩
 | T, Ta, some p :: ps, [], ws, T1, hT, hv, h => by cases h
 | T, Ta, none :: ps, [], ws, T1, hT, hv, h => by cases h
 | T, Ta, [], v :: vs, ws, T1, hT, hv, h => by cases h
def PRound (E : Env V) (p : List Nat) (b : Nat) (args : List PV) (hp : PH) (R : Bool → PH → Prop) : Prop :=
 ∀ (F : Nat → Prop) (ρ : PR) (H : AH V) (avs : List Value) (l e : Nat), Rel F ρ hp [] H → ρ b = some (some (l, e)) → PRels F ρ H args avs → ARuns E (.round l avs H) fun r => ∃ F' ρ' hp' t, PExt F ρ [] H F' ρ' [] r.H ∧ (∀ b x, b ∈ p → ρ b = some x → ρ' b = some x) ∧ Rel F' ρ' hp' [] r.H ∧ r.v = .bool t ∧ R t hp'
theorem PRound.mono {b : Nat} {args : List PV} {R R' : Bool → PH → Prop} (h : PRound E p b args hp R) (hq : ∀ t hp, R t hp → R' t hp) : PRound E p b args hp R' := fun F ρ H avs l e hr hb ha =>
 (h F ρ H avs l e hr hb ha).mono fun r ⟨F', ρ', hp', t, a1, a2, a3, a4, a5⟩ => ⟨F', ρ', hp', t, a1, a2, a3, a4, hq _ _ a5⟩
theorem loop_at {b l e : Nat} {T : List PV} {ps : List (Option Nat)} {as_ bd : ACode} {s : LoopState} {pe : Option AE} (hr : Rel F ρ hp ds H) (hb : hp[b]? = some (.loop T ps as_ bd s pe)) (hρ : ρ b = some (some (l, e))) : ¬ F l ∧ ∃ Ta, Vec.get H l = some (.loop Ta ps as_ bd s pe) ∧ PRels F ρ H T Ta := by
 obtain ⟨a, e', Ta, r1, r2, r3, r4⟩ := hr.blk b _ hb
 rw [hρ] at r1; cases r1
 exact ⟨r2, Ta, r3, r4⟩
theorem loop_set {b l e : Nat} {T : List PV} {ps : List (Option Nat)} {as_ bd : ACode} {s s' : LoopState} {pe pe' : Option AE} {Ta : List Value} (hr : Rel F ρ hp ds H) (hb : hp[b]? = some (.loop T ps as_ bd s pe)) (hρ : ρ b = some (some (l, e))) (hg : Vec.get H l = some (.loop Ta ps as_ bd s pe)) : Step F ρ ds H ρ (hp.set b (.loop T ps as_ bd s' pe')) (Vec.set H l (.loop Ta ps as_ bd s' pe')) := by
 obtain ⟨r1, Ta', r2, r3⟩ := loop_at hr hb hρ
 rw [hg] at r2; cases r2
 exact rel_set hr hb (by simp) hρ r1 hg fun hle hg' => ⟨l, e, Ta, hρ, r1, hg', r3.mono hle (fun _ _ h => h)⟩
theorem p_round {b : Nat} {args T1 : List PV} {ps : List (Option Nat)} {as_ bd : ACode} {R : Bool → PH → Prop} (hbp : b ∈ p) (hb : hp[b]? = some (.loop T ps as_ bd .ready none)) (hs : pset T ps args = some T1)
  (h : PTri E true p as_ T1 hp fun e T2 hp2 => e = .norm ∧ ∃ Tz, hp2[b]? = some (.loop Tz ps as_ bd .ready none) ∧ PTri E true p bd T2 (hp2.set b (.loop Tz ps as_ bd .busy none)) fun e T3 hp3 => ∃ Tw, hp3[b]? = some (.loop Tw ps as_ bd .busy none) ∧ R (isNorm e) (hp3.set b (.loop Tw ps as_ bd (endSt e).1 (endSt e).2))) : PRound E p b args hp R := by
 intro F ρ H avs l e0 hr hρ ha
 obtain ⟨hF, Ta, hg, hT⟩ := loop_at hr hb hρ
 obtain ⟨T1a, q1, q2⟩ := pset_ok hT ha hs
 obtain ⟨n1, r1, g1, gd1, F1, ρ1, T2, hp2, a1, a2, a3, a4, a5, Tz, a6, hbody⟩ := runs_ds (h F ρ H [] T1a hr q2)
 obtain ⟨e1, T2a, H2, ds2, v2⟩ := r1
 simp only at gd1 a1 a3 a4 a5
 subst gd1; subst a5
 have hρ1 := a2 b _ hbp hρ
 obtain ⟨hF1, Tza, hg1, hTz⟩ := loop_at a3 a6 hρ1
 have hst := loop_set (s' := .busy) (pe' := none) a3 a6 hρ1 hg1
 obtain ⟨n2, r2, g2, gd2, F3, ρ3, T3, hp3, b1, b2, b3, b4, Tw, b5, b6⟩ := runs_ds (hbody F1 ρ1 _ [] T2a hst.rel (a4.mono hst.fle (fun _ _ h => h)))
 obtain ⟨e3, T3a, H3, ds3, v3⟩ := r2
 simp only at gd2 b1 b3 b4 b5 b6
 subst gd2
 have hρ3 := b2 b _ hbp hρ1
 obtain ⟨hF3, Twa, hg3, hTw⟩ := loop_at b3 b5 hρ3
 have hst3 := loop_set (s' := (endSt e3).1) (pe' := (endSt e3).2) b3 b5 hρ3 hg3
 refine ⟨max n1 n2 + 1, ⟨.norm, [], _, [], .bool (isNorm e3)⟩, ?_, F3, ρ3, _, isNorm e3, (a1.trans (hst.ext.trans b1)).trans hst3.ext, fun c x q1 q2 => b2 c x q1 (a2 c x q1 q2), hst3.rel, rfl, b6⟩
 show sRound (arun E (max n1 n2)) l avs H (Vec.get H l) = _
 rw [hg]
 simp only [sRound, q1]
 rw [arun_mono (Nat.le_max_left n1 n2) _ _ g1]
 simp only [sRoundMid, hg1, toBusy]
 rw [arun_mono (Nat.le_max_right n1 n2) _ _ g2]
 simp only [sRoundEnd, hg3]
 cases e3 <;> rfl
theorem does_yield {T L : List Value} {f : Src} {args : List Src} {H : AH V} {Q : Value → AH V → Prop} {l : Nat} {vs : List Value} (hf : sev T L f = some (.func (.yield l) #[] #[])) (ha : evs (sev T L) args = some vs)
  (h : ARuns E (.round l vs H) fun r => Q r.v r.H) : ADoes E T L (.call f args) H Q := by
 obtain ⟨n, ⟨e, T', H', ds, v⟩, h1, h2⟩ := h
 refine ⟨n, v, H', ?_, h2⟩
 simp only [aexec, xCall, hf, ha, acallV, h1]
def refs1 (K : List Nat) : PV → Bool
 | .ptr b _ | .eptr _ b _ _ | .vec _ b _ | .sub _ b _ _ | .exv _ b _ | .tbv b _ | .que b _ _ | .yld b => K.contains b
 | v => nlb v || (match v with | .junk => true | _ => false)
def refsOk (K : List Nat) : PV → Bool
 | .agg cs => cs.all (refs1 K)
 | .tup cs => cs.all (refs1 K)
 | .fn _ a c => a.all (refs1 K) && c.all (refs1 K)
 | v => refs1 K v
theorem refs1_ok {K : List Nat} {v : PV} {w : Value} (h : PRel F ρ H v w) (hv : refs1 K v = true) (hle : FLe F H F' H') (ha : Agree K ρ ρ') : PRel F' ρ' H' v w := by
 have mem : ∀ {b : Nat}, K.contains b = true → b ∈ K := fun {b} h => by simpa using h
 cases h with
 | fr h => exact .fr (h.mono hle)
 | ptr h => exact .ptr (ha _ _ (mem hv) h)
 | eptr h => exact .eptr (ha _ _ (mem hv) h)
 | vec h hn => exact .vec (ha _ _ (mem hv) h) hn
 | vecz h hn => exact .vecz (ha _ _ (mem hv) h) hn
 | sub h ho hl hn => exact .sub (ha _ _ (mem hv) h) ho hl hn
 | exv h hn => exact .exv (ha _ _ (mem hv) h) hn
 | exvz h hn => exact .exvz (ha _ _ (mem hv) h) hn
 | tbv h hn => exact .tbv (ha _ _ (mem hv) h) hn
 | que h => exact .que (ha _ _ (mem hv) h)
 | subz h hn => exact .subz (ha _ _ (mem hv) h) hn
 | yld h => exact .yld (ha _ _ (mem hv) h)
 | agg => simp [refs1, nlb] at hv
 | tup => simp [refs1, nlb] at hv
 | fn => simp [refs1, nlb] at hv
theorem refsOk_ok {K : List Nat} {v : PV} {w : Value} (h : PRel F ρ H v w) (hv : refsOk K v = true) (hle : FLe F H F' H') (ha : Agree K ρ ρ') : PRel F' ρ' H' v w := by
 have each : ∀ {cs : List PV} {l : List Value}, cs.all (refs1 K) = true → (∀ (j : Nat) (c : PV) (v : Value), cs[j]? = some c → l[j]? = some v → PRel F ρ H c v) → ∀ (j : Nat) (c : PV) (v : Value), cs[j]? = some c → l[j]? = some v → PRel F' ρ' H' c v := fun hall h j c v h1 h2 => refs1_ok (h j c v h1 h2) (List.all_eq_true.1 hall _ (List.mem_of_getElem? h1)) hle ha
 cases h with
 | agg hl h => exact .agg hl (each hv h)
 | tup hl h => exact .tup hl (each hv h)
 | fn hl h hm h' =>
   simp only [refsOk, Bool.and_eq_true] at hv
   exact .fn hl (each hv.1 h) hm (each hv.2 h')
 | fr h => exact .fr (h.mono hle)
 | ptr h => exact refs1_ok (.ptr h) hv hle ha
 | eptr h => exact refs1_ok (.eptr h) hv hle ha
 | vec h hn => exact refs1_ok (.vec h hn) hv hle ha
 | vecz h hn => exact refs1_ok (.vecz h hn) hv hle ha
 | sub h ho hl hn => exact refs1_ok (.sub h ho hl hn) hv hle ha
 | exv h hn => exact refs1_ok (.exv h hn) hv hle ha
 | exvz h hn => exact refs1_ok (.exvz h hn) hv hle ha
 | tbv h hn => exact refs1_ok (.tbv h hn) hv hle ha
 | que h => exact refs1_ok (.que h) hv hle ha
 | subz h hn => exact refs1_ok (.subz h hn) hv hle ha
 | yld h => exact refs1_ok (.yld h) hv hle ha
theorem refsT_ok {K : List Nat} {T : List PV} {Ta : List Value} (h : PRels F ρ H T Ta) (hv : T.all (refsOk K) = true) (hle : FLe F H F' H') (ha : Agree K ρ ρ') : PRels F' ρ' H' T Ta := ⟨h.len, fun j c v h1 h2 => refsOk_ok (h.at' j c v h1 h2) (List.all_eq_true.1 hv _ (List.mem_of_getElem? h1)) hle ha⟩
theorem prg_yield (K : List Nat) {fs : Src} {args : List Src} {gd : Option (Src × Bool)} {lo b : Nat} {vs L : List PV} {O : List Bool} {md : List Nat} {cnt : Nat} {Qf : Bool → PH → Prop} (hc : PRound E K b vs hp Qf) (hk : ∀ t hp', Qf t hp' → PRg E p false T ops 0 ⟨.s (.bool t) :: L, false :: O.map fun _ => false, hp', [], 0⟩ Q)
  (h1 : psev T L fs = some (.yld b) := by rfl) (h2 : pevs (psev T L) args = some vs := by rfl) (hw : pwanted T L gd = some true := by rfl) (hT : T.all (refsOk K) = true := by rfl) (hL : L.all (refsOk K) = true := by rfl) (hpK : p.all (fun b => K.contains b) = true := by rfl) : PRg E p false T (⟨.call fs args, gd, lo⟩ :: ops) l0 ⟨L, O, hp, md, cnt⟩ Q := by
 intro F0 ρ0 hp0 H0 F ρ H ds Ta La sn hr hd
 have hTn := hd.T.mono hd.fle hd.rle
 have hLn : PRels F ρ H L La := hd.L
 have hev := sev_ok hTn hLn
 obtain ⟨fw, f1, f2⟩ := hev _ _ h1
 obtain ⟨ws, w1, w2⟩ := evs_ok hev h2
 cases f2 with
 | fr h => cases h
 | @yld _ l e hl =>
 show AOps _ _ _ _ _ _
 refine ops_cons (wanted_ok hev hw) (does_yield f1 w1 ?_)
 have hr0 : Rel F ρ hp [] H := ⟨hr.fsz, hr.blk, hr.inj, hr.dom, hr.own, (fun d h => nomatch h), List.nodup_nil⟩
 refine (hc F ρ H _ l e hr0 hl w2).mono fun r hg => ?_
 obtain ⟨F', ρ', hp', t, a1, a2, a3, a4, a5⟩ := hg
 have hX : PExt F ρ ds H F' ρ' ds r.H := ⟨a1.size, a1.fmono, a1.fget, a1.fnew, fun a q1 q2 _ => a1.keep a q1 q2 (fun h => by cases h), a1.own, fun d h => .inl h⟩
 have hR : Rel F' ρ' hp' ds r.H := ⟨a3.fsz, a3.blk, a3.inj, a3.dom, a3.own, fun d h => by
  obtain ⟨q1, q2, q3⟩ := hr.dfr d h
  have hdl := Vec.get_lt _ _ _ q1
  refine ⟨(a1.keep d hdl q3 (fun h => by cases h)).trans q1, fun x => ?_, fun x => ?_⟩
  ·rcases a1.fnew d x with y | y | y
   ·exact q2 y
   ·exact q3 y
   ·omega
  ·rcases a1.own d x with y | y
   ·exact q3 y
   ·omega, hr.nd⟩
 have hT' := refsT_ok hTn hT hX.fle a2
 have hL' := refsT_ok hLn hL hX.fle a2
 rw [a4]
 have hd' : DI F' ρ' hp' r.H 0 F' ρ' r.H T Ta ⟨.s (.bool t) :: L, false :: O.map fun _ => false, hp', [], 0⟩ (.bool t :: La) [r.H] := by
  refine ⟨.refl _ _, fun _ _ h => h, a3.blk, hT', .cons (.fr (.s _)) hL', fun d v w h => ?_, rfl, Nat.zero_le _, fun b B h => absurd h (Nat.not_lt_zero _), fun K' hK' => ?_⟩
  ·rcases d with _ | d
   ·simp at h
   ·simp only [List.getElem?_cons_succ, List.getElem?_map] at h
    cases hq : O[d]? <;> rw [hq] at h <;> simp at h
  ·have : K' = r.H := by simpa using hK'
   subst this
   exact ⟨fun _ _ => rfl, fun b B a e h => absurd h (Nat.not_lt_zero _)⟩
 have hfin := hk t hp' a5 F' ρ' hp' r.H F' ρ' r.H ds Ta _ _ hR hd'
 have hag : Agree p ρ ρ' := fun b x hb h => a2 b x (by have := List.all_eq_true.1 hpK b hb; simpa using this) h
 exact AOps.mono hfin fun L' H' hg => hg.step hX hag
theorem rel_free (hr : Rel F ρ hp ds H) {a : Nat} {X : Blk} (hf : Free F ρ hp ds a) : Rel F ρ hp ds (Vec.set H a X) ∧ PExt F ρ ds H F ρ ds (Vec.set H a X) ∧ FLe F H F (Vec.set H a X) := by
 have hne : ∀ c, a ≠ c → Vec.get (Vec.set H a X) c = Vec.get H c := fun c h => get_set_ne h
 have hfk : ∀ c, F c → Vec.get (Vec.set H a X) c = Vec.get H c := fun c hc => hne c fun h => hf.1 (h ▸ hc)
 have hle : FLe F H F (Vec.set H a X) := ⟨fun _ h => h, hfk⟩
 refine ⟨⟨fun c hc => by rw [Vec.size_set]; exact hr.fsz c hc, fun b B hb => (hr.blk b B hb).mono hle (fun _ _ h => h) fun a' e hd h => hne a' fun x => hf.2.2.2 b B e hb hd (x ▸ h), hr.inj, hr.dom, fun b a' e h => by rw [Vec.size_set]; exact hr.own b a' e h, fun d hd => ?_, hr.nd⟩, ⟨by rw [Vec.size_set]; omega, fun _ h => h, hfk, fun _ h => .inl h, fun c h1 h2 h3 => hne c fun x => h2 (x ▸ hf.2.2.1), fun _ h => .inl h, fun _ h => .inl h⟩, hle⟩
 obtain ⟨q1, q2, q3⟩ := hr.dfr d hd
 exact ⟨(hne d fun x => hf.2.1 (x ▸ hd)).trans q1, q2, q3⟩
theorem p_range (K : List Nat) {g : Src} {f : FuncId} {first cap as' : List PV} {ps : List (Option Nat)} {as_ bd : ACode} {n : Nat}
  (hc : PCall E K f as' (hp ++ [.loop T ps as_ bd .ready none]) fun v hp' => ∃ Tw e, hp'[hp.length]? = some (.loop Tw ps as_ bd (endSt e).1 (endSt e).2) ∧ R e T (hp'.set hp.length .dead)) (hg : psev T [] g = some (.fn f first cap) := by rfl) (hn : hp.length = n := by rfl) (ha : first ++ [.yld n] ++ cap = as' := by rfl) (hT_ : T.all (refsOk K) = true := by rfl) (hpK : p.all (fun b => K.contains b) = true := by rfl) (hnK : K.contains n = true := by rfl) : PTri E false p (.rangeFunc g ps as_ bd) T hp R := by
 subst hn; subst ha
 intro F ρ H ds Ta hr hT
 obtain ⟨fw, f1, f2⟩ := sev_ok hT .nil g _ hg
 cases f2 with
 | fr h => cases h
 | @fn _ _ _ lf lc hl hlr hm hmr =>
 obtain ⟨H2, hH2⟩ : ∃ H2, Vec.push (Vec.push H .defr) (.loop Ta ps as_ bd .ready none) = H2 := ⟨_, rfl⟩
 have hsz : Vec.size H2 = Vec.size H + 2 := by rw [← hH2, Vec.size_push, Vec.size_push]
 have hgl : Vec.get H2 (Vec.size H + 1) = some (.loop Ta ps as_ bd .ready none) := by rw [← hH2, Vec.get_push, if_pos (by rw [Vec.size_push])]
 have hgd : Vec.get H2 (Vec.size H) = some .defr := by rw [← hH2, Vec.get_push, if_neg (by rw [Vec.size_push]; omega), Vec.get_push, if_pos rfl]
 have hgk : ∀ a, a < Vec.size H → Vec.get H2 a = Vec.get H a := fun a ha => by rw [← hH2, Vec.get_push, if_neg (by rw [Vec.size_push]; omega), Vec.get_push, if_neg (by omega)]
 have hstep := rel_push (x := some (Vec.size H + 1, 0)) (B := .loop T ps as_ bd .ready none) (H' := H2) hr (by omega) (fun a ha _ => hgk a ha) (fun a e h => by cases h; exact ⟨by omega, .inl (by omega)⟩) fun hle hl => ⟨_, _, Ta, PR.upd_same _ _ _, fun h => absurd (hr.fsz _ h) (by omega), hgl, hT.mono hle hl⟩
 have hr0 : Rel F (ρ.upd hp.length (some (Vec.size H + 1, 0))) (hp ++ [.loop T ps as_ bd .ready none]) [] H2 := ⟨hstep.rel.fsz, hstep.rel.blk, hstep.rel.inj, hstep.rel.dom, hstep.rel.own, (fun d h => nomatch h), List.nodup_nil⟩
 have hargs : PRels F (ρ.upd hp.length (some (Vec.size H + 1, 0))) H2 (first ++ [.yld hp.length] ++ cap) (lf ++ [.func (.yield (Vec.size H + 1)) #[] #[]] ++ lc) :=
  .append (.append (PRels.mono ⟨hl, hlr⟩ hstep.fle hstep.le) (.cons (.yld (PR.upd_same _ _ _)) .nil)) (PRels.mono ⟨hm, hmr⟩ hstep.fle hstep.le)
 refine runs_map (F := sRangeEnd (Vec.size H + 1) (Vec.size H) Ta ds) (t := .call f (lf ++ [.func (.yield (Vec.size H + 1)) #[] #[]] ++ lc) H2) (fun rec => ?_) (hc F _ H2 _ hr0 hargs) ?_
 ·show sRange rec false ps as_ bd Ta H ds (sev Ta [] g) = _
  rw [f1]
  simp only [sRange, hH2]
 ·rintro ⟨e0, T0, H3, ds0, v0⟩ ⟨F', ρ', hp', v, a1, a2, a3, a4, Tw, e, a5, a6⟩
  simp only at a1 a3
  have hρl : ρ' hp.length = some (some (Vec.size H + 1, 0)) := a2 _ _ (by simpa using hnK) (PR.upd_same _ _ _)
  obtain ⟨g1, Twa, g2, g3⟩ := loop_at a3 a5 hρl
  have hno0 : ¬ Own (ρ.upd hp.length (some (Vec.size H + 1, 0))) (Vec.size H) := by
   rintro ⟨b, e', h⟩
   by_cases hb : b = hp.length
   ·subst hb; rw [PR.upd_same] at h; injection h with h; injection h with h; injection h with h; omega
   ·rw [PR.upd_ne hb] at h
    have := hr.own b _ _ h
    omega
  have hdk : Vec.get H3 (Vec.size H) = some .defr := (a1.keep _ (by omega) hno0 (fun h => nomatch h)).trans hgd
  have hndx : ¬ F' (Vec.size H) := fun x => by
   rcases a1.fnew _ x with y | y | y
   ·exact absurd (hr.fsz _ y) (by omega)
   ·exact hno0 y
   ·omega
  have hnown : ¬ Own ρ' (Vec.size H) := fun x => by
   rcases a1.own _ x with y | y
   ·exact hno0 y
   ·omega
  have hdsold : ∀ d, d ∈ ds → Vec.get H3 d = some .defr ∧ ¬ F' d ∧ ¬ Own ρ' d := fun d hd => by
   obtain ⟨q1, q2, q3⟩ := hr.dfr d hd
   have hdl := Vec.get_lt _ _ _ q1
   have hno : ¬ Own (ρ.upd hp.length (some (Vec.size H + 1, 0))) d := by
    rintro ⟨b, e', y⟩
    by_cases hb : b = hp.length
    ·subst hb; rw [PR.upd_same] at y; cases y; omega
    ·rw [PR.upd_ne hb] at y; exact q3 ⟨b, e', y⟩
   refine ⟨?_, fun x => ?_, fun x => ?_⟩
   ·rw [a1.keep d (by omega) hno (fun h => by cases h), hgk d hdl]; exact q1
   ·rcases a1.fnew d x with y | y | y
    ·exact q2 y
    ·exact hno y
    ·omega
   ·rcases a1.own d x with y | y
    ·exact hno y
    ·omega
  have hR3 : Rel F' ρ' hp' (Vec.size H :: ds) H3 := ⟨a3.fsz, a3.blk, a3.inj, a3.dom, a3.own, fun d hd => by
   rcases List.mem_cons.1 hd with rfl | hd
   ·exact ⟨hdk, hndx, hnown⟩
   ·exact hdsold d hd, List.nodup_cons.2 ⟨fun h => by
   have := Vec.get_lt _ _ _ (hr.dfr _ h).1
   omega, hr.nd⟩⟩
  have hfree := free_of hR3 a5 (by simp) hρl g1
  obtain ⟨c1, c2, c3⟩ := rel_free (X := .dead) (rel_kill hR3 hp.length) hfree
  have hx : PExt F ρ ds H F' ρ' (Vec.size H :: ds) H3 := by
   refine ⟨by have := a1.size; omega, a1.fmono, fun a h => (a1.fget a h).trans (hgk a (hr.fsz a h)), fun a h => ?_, fun a q1 q2 q3 => ?_, fun a h => ?_, fun d hd => ?_⟩
   ·rcases a1.fnew a h with y | ⟨b, e', y⟩ | y
    ·exact .inl y
    ·by_cases hb : b = hp.length
     ·subst hb; rw [PR.upd_same] at y; cases y; exact .inr (.inr (by omega))
     ·rw [PR.upd_ne hb] at y; exact .inr (.inl ⟨b, e', y⟩)
    ·exact .inr (.inr (by omega))
   ·have hno : ¬ Own (ρ.upd hp.length (some (Vec.size H + 1, 0))) a := by
     rintro ⟨b, e', y⟩
     by_cases hb : b = hp.length
     ·subst hb; rw [PR.upd_same] at y; cases y; omega
     ·rw [PR.upd_ne hb] at y; exact q2 ⟨b, e', y⟩
    rw [a1.keep a (by omega) hno (fun h => by cases h), hgk a q1]
   ·rcases a1.own a h with ⟨b, e', y⟩ | y
    ·by_cases hb : b = hp.length
     ·subst hb; rw [PR.upd_same] at y; cases y; exact .inr (by omega)
     ·rw [PR.upd_ne hb] at y; exact .inl ⟨b, e', y⟩
    ·exact .inr (by omega)
   ·rcases List.mem_cons.1 hd with rfl | hd
    ·exact .inr (Nat.le_refl _)
    ·exact .inl hd
  have hag : Agree K ρ ρ' := fun b x hb h => a2 b x hb (hstep.le b x h)
  refine ⟨⟨e, Ta, Vec.set H3 (Vec.size H + 1) .dead, Vec.size H :: ds, undef⟩, ?_, F', ρ', T, hp'.set hp.length .dead, hx.trans c2, fun b x hb h => hag b x (by have := List.all_eq_true.1 hpK b hb; simpa using this) h, c1, refsT_ok hT hT_ (hx.trans c2).fle hag, a6⟩
  simp only [sRangeEnd, g2]
  cases e <;> rfl
end
end Go.Proofs.Ytggaimcopbjdiaa.AM
namespace Go.Proofs.Ytggaimcopbjdiaa.AM
def popsP (T : List PV) : List AOper → List PV → Option (List PV × Prop)
 | [], L => force L fun L => some (L, True)
 | o :: r, L => match pwanted T L o.g with
   | some true => (match pval o.op (psev T L) [] with
     | some (v, q) => (match popsP T r (v :: L) with | some (L', q') => some (L', q ∧ q') | none => none)
     | none => none)
   | some false => (match isEff o.op with
     | true => none
     | false => popsP T r (.s undef :: L))
   | none => none
theorem pload_hp {n : Option Nat} {p : Option PV} {x : PV × Prop} (h : pload [] n p = some x) (hp : PH) : pload hp n p = some x := by
 unfold pload at h ⊢
 split at h
 ·exact h
 ·simp at h
 ·simp at h
 ·cases h
theorem pval_hp {op : AOp Src} {ev : Src → Option PV} {x : PV × Prop} (h : pval op ev [] = some x) (hp : PH) : pval op ev hp = some x := by
 cases op <;> first | exact h | exact pload_hp h hp
inductive TSub : List PV → List PV → Prop
 | nil : TSub [] []
 | same (v : PV) {l m : List PV} (t : TSub l m) : TSub (v :: l) (v :: m)
 | junk (v : PV) {l m : List PV} (t : TSub l m) : TSub (v :: l) (.junk :: m)
 | frz {sz n k n' k' : Nat} {row row' : Nat → List PV} {l m : List PV} (h1 : n = n') (h2 : n' ≤ k') (h3 : k' ≤ k) (h : ∀ i, i < k' → row i = row' i) (t : TSub l m) : TSub (.frz sz n k row :: l) (.frz sz n' k' row' :: m)
section
variable {V : Type → Type} [Vec V] {E : Env V} {F F' F0 : Nat → Prop} {ρ ρ' ρ0 : PR} {H H' H0 : AH V} {hp hp' hp0 : PH} {ds ds' : List Nat} {T L : List PV} {Ta La : List Value} {l0 : Nat} {st st' : PS} {sn : List (AH V)} {dr : Bool} {o : AOper} {ops : List AOper} {Q : List PV → PH → Prop} {inR : Bool} {p : List Nat} {a b c : ACode} {R : AE → List PV → PH → Prop}
theorem prg_pure : ∀ {pre : List AOper} {L L' : List PV} {O : List Bool} {md : List Nat} {cnt : Nat} {q : Prop}, popsP T pre L = some (L', q) → q → (dr = true → cnt = 0) → (∀ O', PRg E p dr T ops l0 ⟨L', O', hp, md, cnt⟩ Q) → PRg E p dr T (pre ++ ops) l0 ⟨L, O, hp, md, cnt⟩ Q
 | [], L, L', O, md, cnt, q, h, hq, hc, hP => by
   simp only [popsP, force_eq, Option.some.injEq, Prod.mk.injEq] at h
   obtain ⟨rfl, _⟩ := h
   exact hP O
 | o :: r, L, L', O, md, cnt, q, h, hq, hc, hP => by
   simp only [popsP] at h
   split at h
   ·next hw =>
    split at h
    ·next v q1 e =>
     split at h
     ·next L2 q2 e2 =>
      cases h
      have e' := pval_hp e hp
      have hih : ∀ (x : PV × Prop), isHeap o.op = true → pval o.op (psev T L) hp = some x → False := fun x h1 h2 => by
       cases hop : o.op <;> rw [hop] at h1 h2 <;> first | (simp [isHeap] at h1; done) | (simp [pval] at h2; done)
      have hnh : isHeap o.op = false := by
       cases hb : isHeap o.op with
       | false => rfl
       | true => exact (hih _ hb e').elim
      have hpl : (bif dr then plOk l0 ⟨L, O, hp, md, cnt⟩ T o.lo o.op v else true) = true := by
       cases dr with
       | false => rfl
       | true =>
         have := hc rfl
         subst this
         simp only [cond_true, plOk]
         split
         ·next n a _ => rfl
         ·rfl
      refine prg_step (st' := ⟨v :: L, (bif dr then opO l0 ⟨L, O, hp, md, cnt⟩ T o.op else false) :: O, hp, md, cnt⟩) (q := q1) ?_ hq.1 (prg_pure e2 hq.2 hc hP)
      simp only [pstep, hw, hnh, e', hpl, fb_eq]
     ·cases h
    ·cases h
   ·next hw =>
    split at h
    ·cases h
    ·next he =>
     refine prg_step (st' := ⟨.s undef :: L, false :: O, hp, md, cnt⟩) (q := True) ?_ trivial (prg_pure h hq hc hP)
     simp only [pstep, hw, he, fb_eq, cond_false]
   ·cases h
theorem g_pure {L L' : List PV} {O : List Bool} {md : List Nat} {cnt : Nat} {q : Prop} {ops' : List AOper} (k : Nat) (hk : ∀ O', PRg E p dr T ops' l0 ⟨L', O', hp, md, cnt⟩ Q) (h : popsP T (ops.take k) L = some (L', q) := by rfl) (hd : ops.drop k = ops' := by rfl) (hq : q := by (try simp only [in64, and_true, true_and]); (try omega)) (hc : dr = true → cnt = 0 := by first | (intro h; cases h; done) | exact fun _ => rfl) : PRg E p dr T ops l0 ⟨L, O, hp, md, cnt⟩ Q := by
 subst hd
 have := prg_pure (O := O) (ops := ops.drop k) h hq hc hk
 rwa [List.take_append_drop] at this
theorem g_fin {L : List PV} {O : List Bool} {md : List Nat} {cnt : Nat} {back : List (Nat × Src)} {T' : List PV} {K : List PV → PH → Prop} (hk : K T' hp) (hb : pback T L back T = some T' := by rfl) : PRg E p dr T [] l0 ⟨L, O, hp, md, cnt⟩ (regQ T back K) := prg_nil ⟨T', hb, hk⟩
theorem s_pure {back : List (Nat × Src)} {L' : List PV} {q : Prop} {T' : List PV} (hk : PTri E inR p b T' hp R) (h : popsP T ops [] = some (L', q) := by rfl) (hb : pback T L' back T = some T' := by rfl) (hq : q := by (try simp only [in64, and_true, true_and]); (try omega)) : PTri E inR p (.seq (.region ops back) b) T hp R := by
 refine s_reg ?_
 have := prg_pure (E := E) (p := p) (dr := false) (ops := []) (l0 := hp.length) (hp := hp) (O := []) (md := []) (cnt := 0) (Q := regQ T back fun T' hp' => PTri E inR p b T' hp' R) h hq (fun h => nomatch h) fun O' => prg_nil ⟨T', hb, hk⟩
 rwa [List.append_nil] at this
theorem e_pure {back : List (Nat × Src)} {L' : List PV} {q : Prop} {T' : List PV} (hk : R .norm T' hp) (h : popsP T ops [] = some (L', q) := by rfl) (hb : pback T L' back T = some T' := by rfl) (hq : q := by (try simp only [in64, and_true, true_and]); (try omega)) : PTri E inR p (.region ops back) T hp R := by
 refine e_reg ?_
 have := prg_pure (E := E) (p := p) (dr := false) (ops := []) (l0 := hp.length) (hp := hp) (O := []) (md := []) (cnt := 0) (Q := regQ T back fun T' hp' => R .norm T' hp') h hq (fun h => nomatch h) fun O' => prg_nil ⟨T', hb, hk⟩
 rwa [List.append_nil] at this
theorem g_fbox {L : List PV} {O : List Bool} {md : List Nat} {cnt n lo1 lo2 : Nat} {cs : List Value} {x : Src} {v : PV} (sz k i o : Nat) (row : Nat → List PV) (hi : i < k) (ho : 0 = i * sz + o) (hl : k * sz ≤ (pcs v).length) (hf : ∀ i, i < k → ((pcs v).drop (i * sz)).take sz = row i)
  (hk : ∀ O', PRg E p false T ops l0 ⟨.junk :: .fptr sz k row i o :: L, O', hp, md, cnt + 1⟩ Q) (hx : psev T (.junk :: L) x = some v := by rfl) (h1 : cs.all oneCell = true := by rfl) (h2 : (pcs v).all okc = true := by rfl) (h2' : (pcs v).all nlb = true := by rfl) (h3 : (pcs v).length = n := by rfl) (h4 : cs.length = n := by rfl) (h5 : psplice (cs.map .s) 0 (pcs v) = pcs v := by rfl) :
  PRg E p false T (⟨.alloc cs, none, lo1⟩ :: ⟨.store n (.loc 0) x, none, lo2⟩ :: ops) l0 ⟨L, O, hp, md, cnt⟩ Q := by
 intro F0 ρ0 hp0 H0 F ρ H ds Ta La sn hr hd
 show AOps _ _ _ _ _ _
 have hL : PRels F ρ H L La := hd.L
 have hT := hd.T.mono hd.fle hd.rle
 have hL1 : PRels F ρ H (.junk :: L) (.pointer (some ⟨Vec.size H, 0, none⟩) :: La) := .cons (.fr (.junk _)) hL
 obtain ⟨w, w1, w2⟩ := sev_ok hT hL1 x v hx
 obtain ⟨q1, q2⟩ := pcs_ok w2 h2
 obtain ⟨H1, hH1⟩ : ∃ H1, anew H cs = H1 := ⟨_, rfl⟩
 have hg1 : Vec.get H1 (Vec.size H) = some (.arr cs true 0) := by rw [← hH1]; exact get_anew_same _ _
 have hs1 : Vec.size H1 = Vec.size H + 1 := by rw [← hH1, size_anew]
 obtain ⟨H2, hH2⟩ : ∃ H2, Vec.set H1 (Vec.size H) (.arr (splice cs 0 w.cells.toList) true 0) = H2 := ⟨_, rfl⟩
 have hg2 : Vec.get H2 (Vec.size H) = some (.arr (splice cs 0 w.cells.toList) true 0) := by rw [← hH2]; exact get_set_same (by omega)
 have hs2 : Vec.size H2 = Vec.size H + 1 := by rw [← hH2, Vec.size_set]; exact hs1
 have hk2 : ∀ a, a < Vec.size H → Vec.get H2 a = Vec.get H a := fun a ha => by
  rw [← hH2, get_set_ne (show Vec.size H ≠ a by omega), ← hH1, get_anew_lt ha]
 have hwl : w.cells.toList.length = n := by rw [← q1.len]; exact h3
 have hcs := splice_ok (off := 0) (rels_s (F := F) (ρ := ρ) (H := H) cs) q1
 rw [h5] at hcs
 obtain ⟨F', hF'⟩ : ∃ F' : Nat → Prop, F' = fun a => F a ∨ a = Vec.size H := ⟨_, rfl⟩
 have hle : FLe F H F' H2 := ⟨fun a h => by rw [hF']; exact .inl h, fun a h => hk2 a (hr.fsz a h)⟩
 have hnew : ∀ a, a < Vec.size H → F' a → F a := fun a ha h => by
  rw [hF'] at h
  rcases h with h | h
  ·exact h
  ·omega
 have hR : Rel F' ρ hp ds H2 := by
  refine ⟨fun a h => ?_, fun b B hb => ?_, hr.inj, hr.dom, fun b a e h => ?_, fun d hd' => ?_, hr.nd⟩
  ·rw [hF'] at h
   rcases h with h | h
   ·have := hr.fsz a h; omega
   ·omega
  ·refine (hr.blk b B hb).mono' hle (fun _ _ h => h) (fun _ h => h) fun a e hne he => ?_
   have hal := hr.own b a e he
   refine ⟨fun x => ?_, hk2 a hal⟩
   have hFa := hnew a hal x
   have hbo := hr.blk b B hb
   cases B with
   | dead => exact hne rfl
   | cel cs =>
     obtain ⟨a', e', vs', y1, y2, _⟩ := hbo
     rw [he] at y1; cases y1; exact y2 hFa
   | loop T ps as_ bd st pe =>
     obtain ⟨a', e', vs', y1, y2, _⟩ := hbo
     rw [he] at y1; cases y1; exact y2 hFa
   | vec sz n f full =>
     rcases hbo with ⟨y1, _⟩ | ⟨a', ce, vs', y1, y2, _⟩
     ·rw [he] at y1; cases y1
     ·rw [he] at y1; cases y1; exact y2 hFa
  ·have := hr.own b a e h; omega
  ·obtain ⟨y1, y2, y3⟩ := hr.dfr d hd'
   have hdl := Vec.get_lt _ _ _ y1
   exact ⟨(hk2 d hdl).trans y1, fun z => y2 (hnew d hdl z), y3⟩
 have hX : PExt F ρ ds H F' ρ ds H2 := ⟨by omega, hle.mono, hle.get, fun a h => by
  rw [hF'] at h
  rcases h with h | h
  ·exact .inl h
  ·exact .inr (.inr (by omega)), fun a y1 _ _ => hk2 a y1, fun _ h => .inl h, fun _ h => .inl h⟩
 have hfp : PRel F' ρ H2 (.fptr sz k row i o) (.pointer (some ⟨Vec.size H, 0, none⟩)) := by
  have := FRel.fptr (F := F') (H := H2) (sz := sz) (k := k) (i := i) (o := o) (row := row) (b := Vec.size H) (off := 0) (by rw [hF']; exact .inr rfl) hg2 hi (by rw [Nat.zero_add, ← hcs.len]; exact hl) (fun i hi => by
   rw [← hf i hi, List.length_take, List.length_drop]
   have := row_le (sz := sz) hi
   omega) (splice_one (List.all_eq_true.1 h1) q2) fun i j c u hi y1 y2 => by
    rw [← hf i hi, List.getElem?_take] at y1
    split at y1
    ·rw [List.getElem?_drop] at y1
     rw [Nat.zero_add] at y2
     exact ((hcs.at' _ c u y1 y2).nl (List.all_eq_true.1 h2' _ (List.mem_of_getElem? y1))).mono hle
    ·cases y1
  rw [Nat.zero_add, ← ho] at this
  exact .fr this
 have hd2 : DI F0 ρ0 hp0 H0 l0 F' ρ H2 T Ta ⟨.junk :: .fptr sz k row i o :: L, false :: false :: O, hp, md, cnt + 1⟩ (undef :: .pointer (some ⟨Vec.size H, 0, none⟩) :: La) (H2 :: sn) := by
  obtain ⟨y1, y2⟩ := hd.sn H (List.mem_cons_self ..)
  have hn : (∀ a, F0 a → Vec.get H2 a = Vec.get H0 a) ∧ ∀ b B a e, b < l0 → b ∉ md → hp0[b]? = some B → B ≠ .dead → ρ0 b = some (some (a, e)) → Vec.get H2 a = Vec.get H0 a :=
   ⟨fun a ha => (hle.get a (hd.fle.mono a ha)).trans (y1 a ha), fun b B a e z1 z2 z3 z4 z5 => (hk2 a (hr.own b a e (hd.rle _ _ z5))).trans (y2 b B a e z1 z2 z3 z4 z5)⟩
  refine ⟨hd.fle.trans hle, hd.rle, hd.hh, hd.T, .cons (.fr (.junk _)) (.cons hfp (hL.mono hle fun _ _ h => h)), fun d u u' z1 z2 z3 => ?_, by simp [hd.cnt], hd.len, hd.un', fun K hK => ?_⟩
  ·rcases d with _ | _ | d
   ·simp at z1
   ·simp at z1
   ·simp only [List.getElem?_cons_succ] at z1 z2 z3
    exact hd.O d u u' z1 z2 z3
  ·rcases List.mem_cons.1 hK with rfl | hK
   ·exact hn
   ·rcases List.mem_cons.1 hK with rfl | hK
    ·exact hn
    ·exact hd.sn K (List.mem_cons_of_mem _ hK)
 have hfin := hk (false :: false :: O) F0 ρ0 hp0 H0 F' ρ H2 ds Ta _ _ hR hd2
 refine ops_cons rfl (does_op (.pointer (some ⟨Vec.size H, 0, none⟩)) H1 (by simp only [aexec, newPtr, hH1]) ?_)
 refine ops_cons rfl (does_op undef H2 ?_ ?_)
 ·have hp0' : sev Ta (.pointer (some ⟨Vec.size H, 0, none⟩) :: La) (.loc 0) = some (.pointer (some ⟨Vec.size H, 0, none⟩)) := rfl
  simp only [aexec, x2, hp0', w1, fStore, astore]
  rw [if_pos hwl]
  simp only [aput', hg1]
  rw [if_pos ⟨Nat.zero_le _, by rw [hwl, h4]; omega, List.all_eq_true.2 q2⟩]
  simp only [hH2]
 ·exact AOps.mono hfin fun L' H' hg => hg.step hX (fun _ _ _ h => h)
theorem tsub_ok {T' : List PV} (h : TSub T T') (hT : PRels F ρ H T Ta) : PRels F ρ H T' Ta := by
 induction h generalizing Ta with
 | nil => exact hT
 | same v t ih =>
   cases Ta with
   | nil => have := hT.len; simp at this
   | cons w Ta => exact .cons (hT.at' 0 _ _ rfl rfl) (ih ⟨by have := hT.len; simpa using this, fun j c u q1 q2 => hT.at' (j + 1) c u (by simpa using q1) (by simpa using q2)⟩)
 | junk v t ih =>
   cases Ta with
   | nil => have := hT.len; simp at this
   | cons w Ta => exact .cons (.fr (.junk _)) (ih ⟨by have := hT.len; simpa using this, fun j c u q1 q2 => hT.at' (j + 1) c u (by simpa using q1) (by simpa using q2)⟩)
 | @frz sz n k n' k' row row' l m h1 h2 h3 h t ih =>
   subst h1
   cases Ta with
   | nil => have := hT.len; simp at this
   | cons w Ta =>
     refine .cons ?_ (ih ⟨by have := hT.len; simpa using this, fun j c u q1 q2 => hT.at' (j + 1) c u (by simpa using q1) (by simpa using q2)⟩)
     refine .fr ?_
     cases (hT.at' 0 _ _ rfl rfl).frz_inv with
     | nil hn =>
       have : _ = 0 := Nat.le_zero.1 h3
       subst this
       exact .nil hn
     | frz hF hg hn hk hl hs ho hc =>
       exact .frz hF hg h2 (Nat.le_trans h3 hk) (Nat.le_trans (Nat.add_le_add_left (Nat.mul_le_mul_right _ h3) _) hl) (fun i hi => by rw [← h i hi]; exact hs i (by omega)) ho fun i j c v hi q1 q2 => hc i j c v (by omega) (by rw [h i hi]; exact q1) q2
theorem p_tsub {T' : List PV} (h : TSub T T') (hk : PTri E inR p c T' hp R) : PTri E inR p c T hp R := fun F ρ H ds Ta hr hT => hk F ρ H ds Ta hr (tsub_ok h hT)
def lpA {ι : Type} (I : ι → PH → Prop) (m : ι → Nat) (tm : ι → List PV) (i : ι) (R : AE → List PV → PH → Prop) : AE → List PV → PH → Prop := fun e T hp => match e with
 | .norm => ∃ j, I j hp ∧ m j < m i ∧ TSub T (tm j)
 | e => R e T hp
theorem p_loopA {ι : Type} (I : ι → PH → Prop) (m : ι → Nat) (tm : ι → List PV) (i0 : ι) (hi : I i0 hp) (h : ∀ i hp, I i hp → PTri E inR p a (tm i) hp (lpA I m tm i R)) : PTri E inR p (.loop a) (tm i0) hp R := by
 refine p_loop (fun n T hp => ∃ i, m i = n ∧ I i hp ∧ T = tm i) (m i0) ⟨i0, rfl, hi, rfl⟩ ?_
 rintro n T hp ⟨i, rfl, h1, rfl⟩
 intro F ρ H ds Ta hr hT
 refine (h i hp h1 F ρ H ds Ta hr hT).mono fun r hg => ?_
 obtain ⟨e, T1, H1, ds1, v1⟩ := r
 obtain ⟨F', ρ', T', hp', a1, a2, a3, a4, a5⟩ := hg
 cases e with
 | norm =>
   obtain ⟨j, q1, q2, q3⟩ := a5
   exact ⟨F', ρ', tm j, hp', a1, a2, a3, tsub_ok q3 a4, m j, q2, j, rfl, q1, rfl⟩
 | _ => exact ⟨F', ρ', T', hp', a1, a2, a3, a4, a5⟩
theorem e_loopA {ι : Type} {id : Nat} (I : ι → PH → Prop) (m : ι → Nat) (tm : ι → List PV) (i0 : ι) (hi : I i0 hp) (hT : TSub T (tm i0)) (h : ∀ i hp, I i hp → PTri E inR p a (tm i) hp (lpA I m tm i (blkQ id R))) : PTri E inR p (.block id (.loop a)) T hp R :=
 p_tsub hT (p_block (p_loopA I m tm i0 hi h))
end
end Go.Proofs.Ytggaimcopbjdiaa.AM
namespace Go.Proofs.Ytggaimcopbjdiaa.AM
section
variable {V : Type → Type} [Vec V] {P : Program} {W : World} {H H' : AH V} {F : Nat → Prop}
def RowX (H : AH V) (v : Value) (es : List (List Value)) : Prop :=
 (nilv v ∧ es = []) ∨ ∃ b, v = .slice (some ⟨b, 0, none⟩) es.length (2 * es.length) ∧ Vec.get H b = some (.arr es.flatten false 0)
theorem RowX.ext {v : Value} {es : List (List Value)} (h : RowX H v es) (he : Keeps H H') : RowX H' v es := by
 rcases h with h | ⟨b, h1, h2⟩
 ·exact .inl h
 ·exact .inr ⟨b, h1, by rw [he.get b (Vec.get_lt _ _ _ h2)]; exact h2⟩
theorem pl_sliceX {D : Type} {Q : D → AH V → List Value → Prop} (hq : ∀ d, Stays (Q d)) {v : Value} {rows : List (List Value)} {ds : List D} (hc : CSl W v rows) (h : All2 (fun r d => Pl V P W r (Q d)) rows ds) :
  Pl V P W [v] (fun H acs => ∃ av ars, acs = [av] ∧ RowX H av ars ∧ All2 (fun a d => Q d H a) ars ds) := by
 have hrows := pl_rows hq h
 intro H ρ ro hn
 rcases hc with ⟨rfl, rfl⟩ | ⟨a, cap, rfl, rfl⟩ | ⟨cb, co, cap, c, e, fr, rfl, hcap, hw, hfit, hcell⟩
 ·cases h
  exact ⟨H, ρ, [.slice none 0 0], .refl _, ro, Rho.le.refl _, hn, .cons (.flat rfl) .nil, _, [], rfl, .inl ⟨.inl rfl, rfl⟩, .nil⟩
 ·cases h
  exact ⟨H, ρ, [.slice (some ⟨0, 0, some 0⟩) 0 0], .refl _, ro, Rho.le.refl _, hn, .cons (.wild (by omega) (fun h => by omega)) .nil, _, [], rfl, .inl ⟨.inr ⟨_, _, _, _, rfl⟩, rfl⟩, .nil⟩
 ·obtain ⟨H1, ρ1, acs, k1, ro1, l1, n1, v1, ars, rfl, r1⟩ := hrows H ρ ro hn
  obtain ⟨ρ2, k2, ro2, l2, n2, hρ, hl⟩ := place_cells ro1 n1 hw hfit hcell v1
  have hlen : ars.length = rows.length := by rw [r1.length, h.length]
  refine ⟨_, ρ2, [.slice (some ⟨Vec.size H1, 0, none⟩) ars.length (2 * ars.length)], k1.trans k2, ro2, l1.trans l2, n2, .cons ?_ .nil, _, ars, rfl, ?_, r1.imp fun a d hd => hq d _ _ _ k2 hd⟩
  ·rw [hlen]
   have := VRel.sl (ρ := ρ2) (b := Vec.size H1) (o := 0) (cb := cb) (co := co) (n := rows.length) (c := rows.length) (c' := cap) (e := 0) hρ hcap (by omega) (fun h => by omega) (fun _ _ L sz hL => by rw [hl] at hL; cases hL)
   exact this
  ·exact .inr ⟨Vec.size H1, rfl, by rw [Vec.get_push, if_pos rfl]⟩
theorem RowX.frz {v : Value} {es : List (List Value)} {sz : Nat} {row : Nat → List PV} (h : RowX H v es) (hF : ∀ b, b < Vec.size H → F b) (hs : Sized sz es) (ho : ∀ e, e ∈ es → ∀ v, v ∈ e → oneCell v = true) (hlen : ∀ i, i < es.length → (row i).length = sz)
  (hr : ∀ (i j : Nat) (e : List Value) (c : PV) (v : Value), es[i]? = some e → (row i)[j]? = some c → e[j]? = some v → FRel F H c v) : FRel F H (.frz sz es.length es.length row) v := by
 rcases h with ⟨h1, rfl⟩ | ⟨b, rfl, hg⟩
 ·exact .nil h1
 ·refine .frz (hF b (Vec.get_lt _ _ _ hg)) hg (Nat.le_refl _) (by omega) (by rw [hs.flat]; omega) hlen ?_ ?_
  ·intro v hv
   obtain ⟨e, he, hv⟩ := List.mem_flatten.1 hv
   exact ho e he v hv
  ·intro i j c v hi hc hv
   have hj : j < sz := by rw [← hlen i hi]; exact (List.getElem?_eq_some_iff.1 hc).1
   have hat := hs.at hi
   refine hr i j es[i] c v (List.getElem?_eq_getElem hi) hc ?_
   rw [← hat, List.getElem?_take, if_pos hj, List.getElem?_drop, ← hv, Nat.zero_add]
theorem all2_map {α β : Type} {f : β → α} {l : List α} {l' : List β} (h : All2 (fun a b => a = f b) l l') : l = l'.map f := by
 induction h with
 | nil => rfl
 | cons x _ ih => rw [x, ih]; rfl
theorem frz_ints {v : Value} {k : IntKind} {zs : List Int} (h : RowX H v (zs.map fun z => [Value.int k z])) (hF : ∀ b, b < Vec.size H → F b) : FRel F H (.frz 1 zs.length zs.length (rowI k zs)) v := by
 have := h.frz (F := F) (sz := 1) (row := rowI k zs) hF (fun e he => by obtain ⟨z, _, rfl⟩ := List.mem_map.1 he; rfl) (fun e he v hv => by
  obtain ⟨z, _, rfl⟩ := List.mem_map.1 he
  simp only [List.mem_singleton] at hv
  subst hv; rfl) (fun i hi => rfl) (fun i j e c v h1 h2 h3 => by
  rw [List.getElem?_map] at h1
  cases hz : zs[i]? with
  | none => rw [hz] at h1; cases h1
  | some z =>
    rw [hz] at h1
    cases h1
    have hj := (List.getElem?_eq_some_iff.1 h3).1
    have : j = 0 := by simp only [List.length_cons, List.length_nil] at hj; omega
    subst this
    simp only [rowI, List.getElem?_cons_zero, Option.some.injEq, List.getD_eq_getElem?_getD, hz, Option.getD_some] at h2 h3
    subst h2 h3
    exact .s _)
 rwa [List.length_map] at this
theorem frz_pairs {v : Value} {k1 k2 : IntKind} {l : List (Int × Int)} (h : RowX H v (l.map fun p => [Value.int k1 p.1, Value.int k2 p.2])) (hF : ∀ b, b < Vec.size H → F b) : FRel F H (.frz 2 l.length l.length (fun i => [.s (.int k1 (l.getD i (0, 0)).1), .s (.int k2 (l.getD i (0, 0)).2)])) v := by
 have := h.frz (F := F) (sz := 2) (row := fun i => [.s (.int k1 (l.getD i (0, 0)).1), .s (.int k2 (l.getD i (0, 0)).2)]) hF (fun e he => by obtain ⟨z, _, rfl⟩ := List.mem_map.1 he; rfl) (fun e he v hv => by
  obtain ⟨z, _, rfl⟩ := List.mem_map.1 he
  simp only [List.mem_cons, List.not_mem_nil, or_false] at hv
  rcases hv with rfl | rfl <;> rfl) (fun i hi => rfl) (fun i j e c v h1 h2 h3 => by
  rw [List.getElem?_map] at h1
  cases hz : l[i]? with
  | none => rw [hz] at h1; cases h1
  | some z =>
    rw [hz] at h1
    cases h1
    have hj := (List.getElem?_eq_some_iff.1 h3).1
    simp only [List.getD_eq_getElem?_getD, hz, Option.getD_some] at h2
    have : j = 0 ∨ j = 1 := by simp only [List.length_cons, List.length_nil] at hj; omega
    rcases this with rfl | rfl
    ·simp only [List.getElem?_cons_zero, Option.some.injEq] at h2 h3
     subst h2 h3; exact .s _
    ·simp only [List.getElem?_cons_succ, List.getElem?_cons_zero, Option.some.injEq] at h2 h3
     subst h2 h3; exact .s _)
 rwa [List.length_map] at this
end
section
variable {A : Type} {enc : TypeId × Value → A} {P : Program} {W : World}
theorem plx_ints {t e : TypeId} {k : IntKind} {B : Nat} (ht : P.underlying t = some (.slice e)) (he : P.underlying e = some (.int k)) (ce : P.cellsOf e = 1) {V : Type → Type} [Vec V] {cs : List Value} {d : DataW A} (h : Trd enc P W t cs d) (hz : ∀ m ∈ d.weights P t, m ≤ B) :
  ∃ zs : List Int, Pl V P W cs (fun H acs => ∃ av, acs = [av] ∧ RowX H av (zs.map fun z => [Value.int k z])) ∧ zs.length * P.bytesOf e ≤ B ∧ ∀ z, z ∈ zs → (Lit.int k z).wf = true := by
 obtain ⟨v, rows, rfl, csl, each, hb⟩ := tr_slice ht (by rw [ce]; omega) h
 obtain ⟨zs, hzs⟩ := All2.of_exists (R := fun (r : List Value) (z : Int) => r = [Value.int k z] ∧ (Lit.int k z).wf = true) (l := rows) fun i hi => by
  obtain ⟨_, z, hz, _⟩ := each i hi
  obtain ⟨x, hx, hw⟩ := tr_int he hz
  exact ⟨x, hx, hw⟩
 have hlen := hzs.length
 refine ⟨zs, pl_imp (pl_sliceX (Q := fun (z : Int) _ acs => acs = [Value.int k z]) (fun _ _ _ _ _ h => h) csl (hzs.imp fun r z hr => ?_)) ?_, ?_, ?_⟩
 ·rw [hr.1]
  exact pl_flat rfl
 ·rintro H acs ⟨av, ars, rfl, h1, h2⟩
  exact ⟨av, rfl, by rw [← all2_map h2]; exact h1⟩
 ·rw [← hlen]; exact hb B hz
 ·intro z hz
  obtain ⟨i, hi, rfl⟩ := List.getElem_of_mem hz
  exact (hzs.get i (by omega) hi).2
theorem plx_pairs {t e : TypeId} {k1 k2 : IntKind} {fs : Array Field} {f1 f2 : Field} {B : Nat} (ht : P.underlying t = some (.slice e)) (he : P.underlying e = some (.struct fs)) (hfs : fs = #[f1, f2]) (o1 : f1.offset = 0) (o2 : f2.offset = 1)
  (u1 : P.underlying f1.type = some (.int k1)) (u2 : P.underlying f2.type = some (.int k2)) (c1 : P.cellsOf f1.type = 1) (c2 : P.cellsOf f2.type = 1) (ce : P.cellsOf e = 2) {V : Type → Type} [Vec V]
  {cs : List Value} {d : DataW A} (h : Trd enc P W t cs d) (hz : ∀ m ∈ d.weights P t, m ≤ B) :
  ∃ l : List (Int × Int), Pl V P W cs (fun H acs => ∃ av, acs = [av] ∧ RowX H av (l.map fun p => [Value.int k1 p.1, Value.int k2 p.2])) ∧ l.length * P.bytesOf e ≤ B ∧ ∀ p, p ∈ l → (Lit.int k1 p.1).wf = true ∧ (Lit.int k2 p.2).wf = true := by
 subst hfs
 obtain ⟨v, rows, rfl, csl, each, hb⟩ := tr_slice ht (by rw [ce]; omega) h
 obtain ⟨zs, hzs⟩ := All2.of_exists (R := fun (r : List Value) (p : Int × Int) => r = [Value.int k1 p.1, Value.int k2 p.2] ∧ (Lit.int k1 p.1).wf = true ∧ (Lit.int k2 p.2).wf = true) (l := rows) fun i hi => by
  obtain ⟨hl, z, hz, _⟩ := each i hi
  obtain ⟨_, hf⟩ := tr_struct he hz
  obtain ⟨z1, t1, _⟩ := hf 0 f1 rfl
  obtain ⟨z2, t2, _⟩ := hf 1 f2 rfl
  rw [o1, c1] at t1
  rw [o2, c2] at t2
  obtain ⟨a, ha, wa⟩ := tr_int u1 t1
  obtain ⟨b, hb, wb⟩ := tr_int u2 t2
  rw [ce] at hl
  generalize rows[i] = r at *
  match r, hl with
  | [x, y], _ =>
    simp at ha hb
    exact ⟨(a, b), by rw [ha, hb], wa, wb⟩
 have hlen := hzs.length
 refine ⟨zs, pl_imp (pl_sliceX (Q := fun (p : Int × Int) _ acs => acs = [Value.int k1 p.1, Value.int k2 p.2]) (fun _ _ _ _ _ h => h) csl (hzs.imp fun r z hr => ?_)) ?_, ?_, ?_⟩
 ·rw [hr.1]
  exact pl_flat rfl
 ·rintro H acs ⟨av, ars, rfl, h1, h2⟩
  exact ⟨av, rfl, by rw [← all2_map h2]; exact h1⟩
 ·rw [← hlen]; exact hb B hz
 ·intro z hz
  obtain ⟨i, hi, rfl⟩ := List.getElem_of_mem hz
  exact (hzs.get i (by omega) hi).2
theorem wf_in64 {n : Int} (h : (Lit.int .i64 n).wf = true) : in64 n := by
 have : IntKind.i64.min ≤ n ∧ n ≤ IntKind.i64.max := by simpa [Lit.wf] using h
 have e1 : IntKind.i64.min = -9223372036854775808 := by decide
 have e2 : IntKind.i64.max = 9223372036854775807 := by decide
 unfold in64
 omega
end
end Go.Proofs.Ytggaimcopbjdiaa.AM
namespace Go.Proofs.Ytggaimcopbjdiaa.AM
section
variable {V : Type → Type} [Vec V] {E : Env V} {hp hp' : PH} {T L : List PV} {O : List Bool} {md : List Nat} {cnt l0 : Nat} {dr : Bool} {ops : List AOper} {op : AOp Src} {gd : Option (Src × Bool)} {lo : Nat} {Q : List PV → PH → Prop} {inR : Bool} {p : List Nat} {R : AE → List PV → PH → Prop}
theorem prg_v {v : PV} {q : Prop} (h : pval op (psev T L) hp = some (v, q)) (hP : PRg E p dr T ops l0 ⟨v :: L, (bif dr then opO l0 ⟨L, O, hp, md, cnt⟩ T op else false) :: O, hp, md, cnt⟩ Q) (hq : q) (hl : (bif dr then plOk l0 ⟨L, O, hp, md, cnt⟩ T lo op v else true) = true) (hw : pwanted T L gd = some true := by rfl) (hh : isHeap op = false := by rfl) : PRg E p dr T (⟨op, gd, lo⟩ :: ops) l0 ⟨L, O, hp, md, cnt⟩ Q :=
 prg_step (by simp only [pstep, hw, hh, h, hl, fb_eq]) hq hP
theorem prg_e {v : PV} {q : Prop} (h : peff op (psev T L) hp = some (v, hp', q)) (hP : PRg E p dr T ops l0 ⟨v :: L, false :: O, hp', pmod op (psev T L) ++ md, bif isEff op then cnt + 1 else cnt⟩ Q) (hq : q) (hw : pwanted T L gd = some true := by rfl) (hh : isHeap op = true := by rfl) : PRg E p dr T (⟨op, gd, lo⟩ :: ops) l0 ⟨L, O, hp, md, cnt⟩ Q :=
 prg_step (by simp only [pstep, hw, hh, h, fb_eq, force_eq]) hq hP
theorem prg_cast {v v' : PV} {b : Bool} (hc : ∀ (F : Nat → Prop) (ρ : PR) (H : AH V) (w : Value), PRel F ρ H v w → PRel F ρ H v' w) (hP : PRg E p dr T ops l0 ⟨v' :: L, b :: O, hp, md, cnt⟩ Q) : PRg E p dr T ops l0 ⟨v :: L, b :: O, hp, md, cnt⟩ Q := by
 intro F0 ρ0 hp0 H0 F ρ H ds Ta La sn hr hd
 have hL : PRels F ρ H (v' :: L) La := ⟨hd.L.len, fun j c w h1 h2 => by
  cases j with
  | zero =>
    simp only [List.getElem?_cons_zero, Option.some.injEq] at h1
    subst h1
    exact hc _ _ _ _ (hd.L.at' 0 v w rfl h2)
  | succ j => exact hd.L.at' (j + 1) c w h1 h2⟩
 exact hP F0 ρ0 hp0 H0 F ρ H ds Ta La sn hr ⟨hd.fle, hd.rle, hd.hh, hd.T, hL, fun d u w h1 h2 h3 => by
  cases d with
  | zero =>
    simp only [List.getElem?_cons_zero, Option.some.injEq] at h2
    subst h2
    exact hc _ _ _ _ (hd.O 0 v w h1 rfl h3)
  | succ d => exact hd.O (d + 1) u w h1 h2 h3, hd.cnt, hd.len, hd.un', hd.sn⟩
theorem eptr_ptr {b i : Nat} (F : Nat → Prop) (ρ : PR) (H : AH V) (w : Value) (h : PRel F ρ H (.eptr 1 b i 0) w) : PRel F ρ H (.ptr b i) w := by
 cases h with
 | fr h => cases h
 | @eptr sz b i off a e h =>
   have : i * 1 + 0 = i := by omega
   rw [this]; exact .ptr h
def RowsAt (hp : PH) (bk n : Nat) (rows : Nat → List Int) (lo : Nat) : Prop :=
 ∃ cs : List PV, hp[bk]? = some (.cel cs) ∧ cs.length = n ∧ ∃ ptr : Nat → Nat,
  (∀ i, i < n → (rows i = [] ∧ cs[i]? = some (.s (.slice none 0 0))) ∨ (rows i ≠ [] ∧ cs[i]? = some (.vec 1 (ptr i) (rows i).length) ∧ lo ≤ ptr i ∧ ∃ f, hp[ptr i]? = some (.vec 1 (rows i).length f true) ∧ ∀ j, j < (rows i).length → f j = rowI .i64 (rows i) j)) ∧
  ∀ i j, i < n → j < n → rows i ≠ [] → rows j ≠ [] → ptr i = ptr j → i = j
def updR (rows : Nat → List Int) (i : Nat) (r : List Int) : Nat → List Int := fun j => if j = i then r else rows j
theorem RowsAt.start {hp : PH} {bk n lo : Nat} (h : hp[bk]? = some (.cel (List.replicate n (.s (.slice none 0 0))))) : RowsAt hp bk n (fun _ => []) lo :=
 ⟨_, h, by simp, fun _ => 0, fun i hi => .inl ⟨rfl, by rw [List.getElem?_replicate, if_pos hi]⟩, fun i j _ _ h => absurd rfl h⟩
theorem RowsAt.keep {hp hp' : PH} {bk n lo : Nat} {rows : Nat → List Int} (h : RowsAt hp bk n rows lo) (hb : hp'[bk]? = hp[bk]?) (hk : ∀ j, lo ≤ j → j < hp.length → hp'[j]? = hp[j]?) : RowsAt hp' bk n rows lo := by
 obtain ⟨cs, h1, h2, ptr, h3, h4⟩ := h
 refine ⟨cs, hb.trans h1, h2, ptr, fun i hi => ?_, h4⟩
 rcases h3 i hi with h | ⟨q1, q2, q3, f, q4, q5⟩
 ·exact .inl h
 ·exact .inr ⟨q1, q2, q3, f, (hk _ q3 (List.getElem?_eq_some_iff.1 q4).1).trans q4, q5⟩
theorem RowsAt.frz {hp : PH} {bk n lo : Nat} {rows : Nat → List Int} (h : RowsAt hp bk n rows lo) : ∃ fz : List Nat, bk ∈ fz ∧ (∀ b, b ∈ fz → b = bk ∨ lo ≤ b) ∧ ∀ σ, VSub1 σ fz hp (.vec 1 bk n) (.frz 1 n n fun i => [encI (rows i)]) := by
 obtain ⟨cs, h1, h2, ptr, h3, h4⟩ := h
 refine ⟨bk :: (List.range n).map fun i => if rows i = [] then bk else ptr i, List.mem_cons_self, fun b hb => ?_, fun σ => ?_⟩
 ·rcases List.mem_cons.1 hb with h | h
  ·exact .inl h
  ·obtain ⟨i, hi, rfl⟩ := List.mem_map.1 h
   have hi := List.mem_range.1 hi
   by_cases hn : rows i = []
   ·rw [if_pos hn]; exact .inl rfl
   ·rw [if_neg hn]
    rcases h3 i hi with ⟨q, _⟩ | ⟨_, _, q, _⟩
    ·exact absurd q hn
    ·exact .inr q
 ·refine .vecc List.mem_cons_self h1 (by omega) rfl (fun i hi => rfl) fun i hi => ?_
  rcases h3 i hi with ⟨q1, q2⟩ | ⟨q1, q2, q3, f, q4, q5⟩
  ·rw [List.getD_eq_getElem?_getD, q2, q1]
   exact .nilf
  ·rw [List.getD_eq_getElem?_getD, q2]
   exact .vecf (List.mem_cons_of_mem _ (List.mem_map.2 ⟨i, List.mem_range.2 hi, by rw [if_neg q1]⟩)) q4 rfl (Nat.le_refl _) (Nat.le_refl _) q5
theorem RowsAt.push {hp hp2 : PH} {bk n i l' lw : Nat} {x : Int} {rows : Nat → List Int} {cs : List PV} {ptr : Nat → Nat} {g : Nat → List PV} (hcs : cs.length = n) (hi : i < n)
  (hrow : ∀ i, i < n → (rows i = [] ∧ cs[i]? = some (.s (.slice none 0 0))) ∨ (rows i ≠ [] ∧ cs[i]? = some (.vec 1 (ptr i) (rows i).length) ∧ lw ≤ ptr i ∧ ∃ f, hp[ptr i]? = some (.vec 1 (rows i).length f true) ∧ ∀ j, j < (rows i).length → f j = rowI .i64 (rows i) j))
  (hinj : ∀ i j, i < n → j < n → rows i ≠ [] → rows j ≠ [] → ptr i = ptr j → i = j) (hb : bk < hp2.length) (hbl : bk < lw) (hl : hp.length ≤ l') (hlw : lw ≤ hp.length)
  (hnew : hp2[l']? = some (.vec 1 ((rows i).length + 1) g true)) (hg : ∀ j, j < (rows i).length + 1 → g j = rowI .i64 (rows i ++ [x]) j) (hold : ∀ j, j < n → j ≠ i → rows j ≠ [] → hp2[ptr j]? = hp[ptr j]?) :
  RowsAt (hp2.set bk (.cel (cs.set i (.vec 1 l' ((rows i).length + 1))))) bk n (updR rows i (rows i ++ [x])) lw := by
 have hne : updR rows i (rows i ++ [x]) i ≠ [] := by simp [updR]
 have hu : ∀ j, j ≠ i → updR rows i (rows i ++ [x]) j = rows j := fun j h => by simp [updR, h]
 have hs : updR rows i (rows i ++ [x]) i = rows i ++ [x] := by simp [updR]
 have hpl : ∀ j, j < n → rows j ≠ [] → ptr j < hp.length := fun j hj hn => by
  rcases hrow j hj with ⟨h, _⟩ | ⟨_, _, _, f, h, _⟩
  ·exact absurd h hn
  ·exact (List.getElem?_eq_some_iff.1 h).1
 refine ⟨_, List.getElem?_set_self hb, by simpa using hcs, fun j => if j = i then l' else ptr j, fun j hj => ?_, fun a b ha hb na nb e => ?_⟩
 ·by_cases h : j = i
  ·subst h
   rw [hs]
   dsimp only
   refine .inr ⟨by simp, ?_, ?_, g, ?_, ?_⟩
   ·rw [List.getElem?_set_self (by omega), if_pos rfl, List.length_append, List.length_singleton]
   ·rw [if_pos rfl]; omega
   ·rw [if_pos rfl, List.getElem?_set_ne (by omega), hnew, List.length_append, List.length_singleton]
   ·intro k hk
    rw [List.length_append, List.length_singleton] at hk
    exact hg k hk
  ·rw [hu j h]
   simp only [if_neg h]
   rw [List.getElem?_set_ne (Ne.symm h)]
   rcases hrow j hj with q | ⟨q1, q2, q3, f, q4, q5⟩
   ·exact .inl q
   ·refine .inr ⟨q1, q2, q3, f, ?_, q5⟩
    rw [List.getElem?_set_ne (by omega), hold j hj h q1]
    exact q4
 ·dsimp only at e
  by_cases h1 : a = i
  ·by_cases h2 : b = i
   ·rw [h1, h2]
   ·rw [if_pos h1, if_neg h2] at e
    rw [hu b h2] at nb
    have := hpl b hb nb
    omega
  ·rw [hu a h1] at na
   by_cases h2 : b = i
   ·rw [if_neg h1, if_pos h2] at e
    have := hpl a ha na
    omega
   ·rw [if_neg h1, if_neg h2] at e
    rw [hu b h2] at nb
    exact hinj a b ha hb na nb e
end
end Go.Proofs.Ytggaimcopbjdiaa.AM
namespace Go.Proofs.Ytggaimcopbjdiaa.AM
section
variable {V : Type → Type} [Vec V]
theorem frz_cast {sz n k k' : Nat} {row row' : Nat → List PV} (h2 : n ≤ k') (h3 : k' ≤ k) (hf : ∀ i, i < k' → row i = row' i) (F : Nat → Prop) (ρ : PR) (H : AH V) (w : Value) (h : PRel F ρ H (.frz sz n k row) w) : PRel F ρ H (.frz sz n k' row') w := by
 refine .fr ?_
 cases h.frz_inv with
 | nil hn =>
   have : _ = 0 := Nat.le_zero.1 h3
   subst this
   exact .nil hn
 | frz hF hg hn hk hl hs ho hc =>
   exact .frz hF hg h2 (Nat.le_trans h3 hk) (Nat.le_trans (Nat.add_le_add_left (Nat.mul_le_mul_right _ h3) _) hl) (fun i hi => by rw [← hf i hi]; exact hs i (by omega)) ho fun i j c v hi q1 q2 => hc i j c v (by omega) (by rw [hf i hi]; exact q1) q2
end
end Go.Proofs.Ytggaimcopbjdiaa.AM
namespace Go.Proofs.Ytggaimcopbjdiaa.AM
section
variable {V : Type → Type} [Vec V] {E : Env V} {F : Nat → Prop} {H : AH V}
end
end Go.Proofs.Ytggaimcopbjdiaa.AM
