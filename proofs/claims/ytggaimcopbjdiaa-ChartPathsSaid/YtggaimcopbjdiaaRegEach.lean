import Derived.Test.YtggaimcopbjdiaaRegWk
set_option linter.unusedVariables false
set_option linter.unusedSimpArgs false
set_option maxRecDepth 10000
namespace Go.Proofs.Ytggaimcopbjdiaa.Graph
open Go.Proofs.Ytggaimcopbjdiaa.AM Go.Proofs.Ytggaimcopbjdiaa.Post
noncomputable def scE : ACode := match ChartAwake.c42.body with
 | .seq _ (.scope b) => b
 | _ => .skip
noncomputable def scE' : ACode := match afind scE 0 with
 | some r => r
 | _ => .skip
theorem scE_ok : afind scE 0 = some scE' := rfl
def Reg (code : List (Int × Int)) (b a : Nat) : Prop := b < code.length ∧ ∃ e, nrT code b = some e ∧ Rg (nxN code) b e code.length a
theorem vs_junk {σ : Sig} {fz : List Nat} {hp : PH} : ∀ (T : List PV), VSubs σ fz hp T (T.map fun _ => .junk)
 | [] => .nil
 | v :: T => .cons (.one (.junk v)) (vs_junk T)
structure Told (code : List (Int × Int)) (b : Nat) (met' : List Int) (tl : List Nat) : Prop where
 len : met'.length = code.length + 1
 le : ∀ a, a < code.length + 1 → met'.getD a 0 ≤ ((b + 1 : Nat) : Int)
 nd : tl.Nodup
 iff : ∀ a, a ∈ tl ↔ Reg code b a
structure Tell (n K : Nat) (g : FuncId) (first cap : Nat → List PV) (x : Bool) (rest : List Value) (S : Type) (num : S → Nat) (row : S → Nat → List PV) (nx : S → Nat → S) (inv : Nat → S → Prop) : Prop where
 sub : ∀ {σ : Sig} {fz : List Nat} {hp : PH} {b b' : Nat}, σ[b']? = some (some b) → VSubs1 σ fz hp (first b) (first b') ∧ VSubs1 σ fz hp (cap b) (cap b')
 step : ∀ {k s a}, inv k s → inv (k + 1) (nx s a)
 call : ∀ {k s a}, k < K → a < n → inv k s → PCall E [0, 1] g (first 0 ++ [i64 (a : Nat)] ++ cap 0) [.cel (hv x 1 (num s) :: rest.map .s), .vec 1 (num s) (row s) false] (fun v hp => v = .tup [] ∧ hp = [.cel (hv x 2 (num (nx s a)) :: rest.map .s), .dead, .vec 1 (num (nx s a)) (row (nx s a)) false])
noncomputable def eW (code : List (Int × Int)) : PB := .cel [nextP code, treeP code, .vec 1 1 (code.length + 1)]
noncomputable def eM (code : List (Int × Int)) (met : List Int) : PB := .vec 1 (code.length + 1) (rowI .i64 met) true
theorem ew_sub {code : List (Int × Int)} {σ : Sig} {fz : List Nat} {hp : PH} {b : Nat} (h : σ[b]? = some (some 0)) (h1 : σ[1]? = some (some 1)) (hf : 0 ∉ fz) (hb : hp[0]? = some (eW code)) : BSub σ fz hp b (eW code) := .cel h hf hb (.cons (.nlv rfl) (.cons (.nlv rfl) (.cons (.one (.vec h1 rfl)) .nil)))
theorem em_sub {code : List (Int × Int)} {met : List Int} {σ : Sig} {fz : List Nat} {hp : PH} {b i : Nat} (h : σ[b]? = some (some i)) (hf : i ∉ fz) (hb : hp[i]? = some (eM code met)) : BSub σ fz hp b (eM code met) := .vec h hf hb (Nat.le_refl _) (fun h => ⟨h, rfl⟩) fun _ _ => rfl
section
variable {code : List (Int × Int)} {K : Nat} {g : FuncId} {first cap : Nat → List PV} {x : Bool} {rest : List Value} {S : Type} {num : S → Nat} {row : S → Nat → List PV} {nx : S → Nat → S} {inv : Nat → S → Prop}
noncomputable def eI (code : List (Int × Int)) (x : Bool) (rest : List Value) (num : S → Nat) (row : S → Nat → List PV) (met : List Int) (s : S) : PH := [eW code, eM code met, .cel (hv x 3 (num s) :: rest.map .s), .vec 1 (num s) (row s) false]
noncomputable def eO (code : List (Int × Int)) (x : Bool) (rest : List Value) (num : S → Nat) (row : S → Nat → List PV) (met : List Int) (s : S) : PH := [eW code, eM code met, .cel (hv x 4 (num s) :: rest.map .s), .dead, .vec 1 (num s) (row s) false]
noncomputable def eN (code : List (Int × Int)) (x : Bool) (rest : List Value) (num : S → Nat) (row : S → Nat → List PV) (met : List Int) (s : S) (todo : List Nat) : PH := [eW code, eM code met, .cel (hv x 7 (num s) :: rest.map .s), .dead, .cel [.ptr 0 0], .cel [.vec 1 6 todo.length], .vec 1 todo.length (rowI .i64 (natI todo)) false, .vec 1 (num s) (row s) false]
noncomputable def eT (g : FuncId) (first cap : Nat → List PV) (b e x : Nat) (v9 : PV) : List PV := [.junk, .junk, .fn g (first 2) (cap 2), .ptr 4 0, .fptr 1 1 (fun _ => [i64 (b : Nat)]) 0 0, .junk, .junk, .ptr 5 0, .fn 59 [] [.fptr 1 1 (fun _ => [i64 (e : Nat)]) 0 0, .fptr 1 1 (fun _ => [i64 (x : Nat)]) 0 0, .ptr 4 0, .fptr 1 1 (fun _ => [i64 (b : Nat)]) 0 0, .ptr 5 0], v9, .junk, .junk]
def eQ (code : List (Int × Int)) (b : Nat) (x : Bool) (rest : List Value) (num : S → Nat) (row : S → Nat → List PV) (nx : S → Nat → S) (s : S) : PV → PH → Prop := fun v hp => v = .tup [] ∧ ∃ met' tl, Told code b met' tl ∧ hp = eO code x rest num row met' (tl.foldl nx s)
theorem et_sub {b e x : Nat} {v9 v9' : PV} {σ : Sig} {fz : List Nat} {hp : PH} (hsub : VSubs1 σ fz hp (first 2) (first 2) ∧ VSubs1 σ fz hp (cap 2) (cap 2)) (h4 : σ[4]? = some (some 4)) (h5 : σ[5]? = some (some 5)) (h9 : VSub σ fz hp v9 v9') : VSubs σ fz hp (eT g first cap b e x v9) (eT g first cap b e x v9') :=
 .cons (.one (.junk _)) (.cons (.one (.junk _)) (.cons (.fn hsub.1 hsub.2) (.cons (.one (.ptr h4)) (.cons (.nlv rfl) (.cons (.one (.junk _)) (.cons (.one (.junk _)) (.cons (.one (.ptr h5)) (.cons (.fn .nil (.cons (.same rfl) (.cons (.same rfl) (.cons (.ptr h4) (.cons (.same rfl) (.cons (.ptr h5) .nil)))))) (.cons h9 (.cons (.one (.junk _)) (.cons (.one (.junk _)) .nil)))))))))))
theorem put_wk (ht : Tell code.length K g first cap x rest S num row nx inv) {b e z : Nat} {T : List PV} {v9 : PV} (hT9 : ∀ {σ : Sig} {fz : List Nat} {hp : PH}, VSubs1 σ fz hp (first 2) (first 2) ∧ VSubs1 σ fz hp (cap 2) (cap 2) → σ[4]? = some (some 4) → σ[5]? = some (some 5) → VSubs σ fz hp T (eT g first cap b e z v9)) {met met' : List Int} {s : S} {todo todo' : List Nat} (m : Bool) : ∃ σ, Weak [0, 1, 2, 3] σ [] T (emb [0, 1, 4, 5, 6] [] (eN code x rest num row met s todo) (pH code m (met', todo'))) (eT g first cap b e z v9) (eN code x rest num row met' s todo') := by
 cases m with
 | false => exact ⟨[some 0, some 1, some 2, some 3, some 4, some 5, some 6, some 7], wk _ [] _ _ (vals := hT9 (ht.sub rfl) rfl rfl) (blks := .cons (ew_sub rfl rfl (by simp) rfl) (.cons (em_sub rfl (by simp) rfl) (.cons (.cel rfl (by simp) rfl (.cons (.one (hv_sub rfl)) (vsubs_s _))) (.cons .dead (.cons (.cel rfl (by simp) rfl (.cons (.one (.ptr rfl)) .nil)) (.cons (.cel rfl (by simp) rfl (.cons (.one (.vec rfl rfl)) .nil)) (.cons bs_same (.cons bs_same .nil))))))))⟩
 | true => exact ⟨[some 0, some 1, some 2, some 3, some 4, some 5, some 8, some 7], wk _ [] _ _ (vals := hT9 (ht.sub rfl) rfl rfl) (blks := .cons (ew_sub rfl rfl (by simp) rfl) (.cons (em_sub rfl (by simp) rfl) (.cons (.cel rfl (by simp) rfl (.cons (.one (hv_sub rfl)) (vsubs_s _))) (.cons .dead (.cons (.cel rfl (by simp) rfl (.cons (.one (.ptr rfl)) .nil)) (.cons (.cel rfl (by simp) rfl (.cons (.one (.vec rfl rfl)) .nil)) (.cons bs_same (.cons bs_same .nil))))))))⟩
theorem vsubs_rs {σ : Sig} {fz : List Nat} {hp : PH} (κ : Nat → Nat) (vs : List Value) : VSubs σ fz hp ((vs.map PV.s).map (ren1 κ)) (vs.map .s) := by
 rw [ren_s]; exact vsubs_s vs
theorem inv_fold (ht : Tell code.length K g first cap x rest S num row nx inv) : ∀ {tl : List Nat} {k : Nat} {s : S}, inv k s → inv (k + tl.length) (tl.foldl nx s)
 | [], k, s, h => h
 | a :: tl, k, s, h => by
   have := inv_fold ht (tl := tl) (ht.step (a := a) h)
   rw [List.length_cons, show k + (tl.length + 1) = k + 1 + tl.length by omega]
   exact this
theorem each_ok (hT : TreeR code (nrT code)) (hn : code.length < 1000000) (ht : Tell code.length K g first cap x rest S num row nx inv) {b : Nat} (hb : b < 4611686018427387904) {met : List Int} (hm : met.length = code.length + 1) (hle : ∀ a, a < code.length + 1 → met.getD a 0 ≤ ((b : Nat) : Int)) {s : S} {k : Nat} (hs : inv k s) (hk : k + code.length < K) :
  PCall E [0, 1, 2, 3] 42 [.ptr 0 0, i64 (b : Nat), .fn g (first 2) (cap 2)] (eI code x rest num row met s) (eQ code b x rest num row nx s) := by
 refine p_fn ?_
 show PTri E false [0, 1, 2, 3] ChartAwake.c42.body [.ptr 0 0, i64 (b : Nat), .fn g (first 2) (cap 2), .junk, .junk, .junk, .junk, .junk, .junk, .junk, .junk, .junk] _ _
 unfold eI eW eM treeP
 refine s_run ?_
 show PTri E false [0, 1, 2, 3] (.scope scE) _ _ _
 refine p_scope2 (ι := Unit) (fun _ => False) (fun _ => 0) (fun _ => []) (fun _ => []) scE_ok ?_ (fun _ h => h.elim)
 have early : ∀ {T : List PV} {B4 B5 B6 : PB} {c : ACode}, (∀ a, ¬ Reg code b a) → PTri E false [0, 1, 2, 3] (.seq .ret c) T [eW code, eM code met, .cel (hv x 3 (num s) :: rest.map .s), .vec 1 (num s) (row s) false, B4, B5, B6] (gotoQ 0 (fun _ : Unit => False) (fun _ => 0) (fun _ => []) (fun _ => []) [0, 1, 2, 3] none (retQ [] (eQ code b x rest num row nx s))) := by
  intro T B4 B5 B6 c hno
  refine p_weakD [some 0, some 1, some 2, some 3, some 3] [] [3] (vs_junk T) (hp' := eO code x rest num row met s) (.cons (ew_sub rfl rfl (by simp) rfl) (.cons (em_sub rfl (by simp) rfl) (.cons (.cel rfl (by simp) rfl (.cons (.one (hv_sub rfl)) (vsubs_s _))) (.cons .dead (.cons (.vec rfl (by simp) rfl (Nat.le_refl _) (fun h => nomatch h) fun _ _ => rfl) .nil))))) ?_
  refine s_ret ?_
  exact fin (R := eQ code b x rest num row nx s) (res := []) ⟨rfl, met, [], ⟨hm, fun a ha => by have := hle a ha; omega, List.nodup_nil, fun a => ⟨fun q => by simp at q, fun q => absurd q (hno a)⟩⟩, rfl⟩
 refine s_reg (g_run 5 ?_)
 refine g_run 1 ?_
 refine prg_head (v' := i64 (code.length : Nat)) (by unfold i64; congr 2; omega) ?_
 refine g_end ?_
 refine s_ass (s_drw (g_run 2 ?_))
 refine prg_head (v' := .s (.bool false)) (by rw [decide_eq_false (by omega)]) ?_
 refine g_run 3 ?_
 refine prg_split (fun h1 => ?_) (fun h1 => ?_)
 ·simp only [ge_iff_le, decide_eq_true_eq] at h1
  refine g_end ?_
  refine s_t ?_
  exact early fun a q => by have := q.1; omega
 simp only [ge_iff_le, decide_eq_false_iff_not] at h1
 have hbx : b < code.length := by omega
 refine g_run 1 ?_
 refine g_run 7 ?_
 rw [treeT_at (by omega), if_neg (by omega)]
 refine g_run 1 ?_
 cases hnr : nrT code b with
 | none =>
   refine prg_head (v' := .s (.bool true)) rfl ?_
   refine g_end ?_
   refine s_t ?_
   exact early fun a q => by
    obtain ⟨_, e, h, _⟩ := q
    rw [hnr] at h; cases h
 | some e =>
   refine prg_head (v' := .s (.bool false)) (by rw [ofN_lt]; rfl) ?_
   refine g_end ?_
   refine s_f (s_skip ?_)
   refine s_drw (g_run 7 ?_)
   rw [treeT_at (by omega), if_neg (by omega), hnr]
   refine g_end ?_
   refine s_run ?_
   refine s_run ?_
   have hpt : ∀ {σ : Sig} {fz : List Nat} {hp : PH} {b : Nat} {v : PV}, hp[b]? = some (.cel [v]) → nlb v = true → b ∈ fz → VSub1 σ fz hp (.ptr b 0) (.fptr 1 1 (fun _ => [v]) 0 0) := fun hb hv hm => .ptrf hm hb (by omega) rfl (by simp) (by simp [hv]) fun i hi => by
    have : i = 0 := by omega
    subst this; rfl
   refine p_weakD [some 0, some 1, some 2, some 3, some 4, some 8, none, some 3] [5, 6, 7] [3] (T' := eT g first cap b e code.length .junk) (hp' := eN code x rest num row met s []) ?_ (.cons (ew_sub rfl rfl (by simp) rfl) (.cons (em_sub rfl (by simp) rfl) (.cons (.cel rfl (by simp) rfl (.cons (.one (hv_sub rfl)) (vsubs_s _))) (.cons .dead (.cons (.cel rfl (by simp) rfl (.cons (.one (.ptr rfl)) .nil)) (.cons (.cel rfl (by simp) rfl (.cons (.one (.nil rfl)) .nil)) (.cons (.nil rfl) (.cons (.vec rfl (by simp) rfl (Nat.le_refl _) (fun h => nomatch h) fun _ _ => rfl) .nil)))))))) ?_
   ·exact .cons (.one (.junk _)) (.cons (.one (.junk _)) (.cons (.fn (ht.sub rfl).1 (ht.sub rfl).2) (.cons (.one (.ptr rfl)) (.cons (.one (hpt rfl rfl (by decide))) (.cons (.one (.junk _)) (.cons (.one (.junk _)) (.cons (.one (.ptr rfl)) (.cons (.fn .nil (.cons (hpt rfl rfl (by decide)) (.cons (hpt rfl rfl (by decide)) (.cons (.ptr rfl) (.cons (hpt rfl rfl (by decide)) (.cons (.ptr rfl) .nil)))))) (.cons (.one (.junk _)) (.cons (.one (.junk _)) (.cons (.one (.junk _)) .nil)))))))))))
   unfold eN eW eM eT nextP treeP
   refine s_drw (g_run 7 ?_)
   refine prg_head (v' := encI (natI (nxN code b))) (by rw [next_nat]) ?_
   have hnl : ∀ c a, a ∈ nxN code c → a < code.length + 1 := fun c a h => (nx_lt h).2
   have hnlen : ∀ c, (nxN code c).length ≤ 2 := fun c => by
    rw [← natI_len, next_nat]; exact nextI_len _ _
   refine g_scall [0, 1, 4, 5, 6] [] (args' := [encI (natI (nxN code b)), .fptr 1 1 (fun _ => [i64 (e : Nat)]) 0 0, .fptr 1 1 (fun _ => [i64 (code.length : Nat)]) 0 0, .ptr 2 0, .fptr 1 1 (fun _ => [i64 (b : Nat)]) 0 0, .ptr 3 0]) (hpc := pH code false (met, [])) (put_ok (hnl b) hm hn (by have := hnlen b; simp only [List.length_nil]; omega) (by have := hnlen b; omega) (by omega)) (wk _ [] _ _ (vals := .cons (.nlv rfl) (.cons (.nlv rfl) (.cons (.nlv rfl) (.cons (.one (.ptr rfl)) (.cons (.nlv rfl) (.cons (.one (.ptr rfl)) .nil)))))) (blks := .cons (ew_sub rfl rfl (by simp) rfl) (.cons bs_same (.cons (.cel rfl (by simp) rfl (.cons (.one (.ptr rfl)) .nil)) (.cons (.cel rfl (by simp) rfl (.cons (.one (.vec rfl rfl)) .nil)) (.cons bs_same .nil)))))) ?_
   rintro v hpc' ⟨rfl, m, rfl⟩
   refine ⟨rfl, by cases m <;> rfl, by cases m <;> simp [pH], ?_⟩
   refine g_fin ?_
   obtain ⟨σ, hw⟩ := put_wk ht (b := b) (e := e) (z := code.length) (v9 := .junk) (met := met) (met' := (markL b e code.length (met, []) (nxN code b)).1) (s := s) (todo := []) (todo' := (markL b e code.length (met, []) (nxN code b)).2) (fun h h4 h5 => et_sub h h4 h5 (.nlv rfl)) m
   refine s_label ?_
   refine e_loop (ι := List Int × List Nat × List Nat) (fun i => Wd (code.length + 1) b e code.length (nxN code) i.1 i.2.1 i.2.2) (fun i => code.length + 1 - i.2.1.length) (fun i => eT g first cap b e code.length .junk) (fun i => eN code x rest num row i.1 (i.2.1.foldl nx s) i.2.2) ((markL b e code.length (met, []) (nxN code b)).1, [], (markL b e code.length (met, []) (nxN code b)).2) (wd_first hm hle hnl) hw ?_
   rintro ⟨met, told, todo⟩ hW
   simp only at hW
   dsimp only
   refine p_block ?_
   unfold eN eW eM eT nextP treeP
   refine s_ass ?_
   refine s_run ?_
   refine s_cond (fun h2 => ?_) (fun h2 => ?_)
   ·have hz : todo = [] := List.eq_nil_of_length_eq_zero (by have := eq_of_beq h2; omega)
    subst hz
    obtain ⟨d1, d2, d3⟩ := wd_done hW
    refine p_weak [some 0, some 1, some 2, some 3, some 7] [] (wk _ [] _ (eO code x rest num row met (told.foldl nx s)) (vals := vs_junk _) (blks := .cons (ew_sub rfl rfl (by simp) rfl) (.cons (em_sub rfl (by simp) rfl) (.cons (.cel rfl (by simp) rfl (.cons (.one (hv_sub rfl)) (vsubs_s _))) (.cons .dead (.cons bs_same .nil)))))) ?_
    refine s_exit ?_
    exact fin (R := eQ code b x rest num row nx s) (res := []) ⟨rfl, met, told, ⟨hW.w.len, hW.w.le, d1, fun a => (d2 a).trans ⟨fun q => ⟨hbx, e, hnr, q⟩, fun q => by
     obtain ⟨_, e', q1, q2⟩ := q
     rw [hnr] at q1; cases q1; exact q2⟩⟩, rfl⟩
   obtain ⟨t0, c, rfl⟩ : ∃ t0 c, todo = t0 ++ [c] := by
    rcases List.eq_nil_or_concat todo with h | ⟨t0, c, h⟩
    ·subst h; cases h2
    ·exact ⟨t0, c, by rw [h, List.concat_eq_append]⟩
   have hcl : c < code.length + 1 := hW.w.lt c (by simp)
   have hcr := hW.w.rg c (by simp)
   have hcx : c ≠ code.length := by cases hcr <;> assumption
   have hlen := nodup_lt hW.w.nd hW.w.lt
   simp only [List.length_append, List.length_singleton] at hlen
   refine s_skip ?_
   refine s_reg (g_run 4 (hq := by simp only [in64, and_true, true_and, List.length_append, List.length_singleton]; omega) ?_)
   refine prg_head (v' := i64 (t0.length : Nat)) (by simp only [List.length_append, List.length_singleton]; unfold i64; congr 2; omega) ?_
   refine g_run 2 (hq := by simp) ?_
   refine prg_head (v' := i64 (c : Nat)) (by
    rw [natI_snoc, List.getD_eq_getElem?_getD, List.getElem?_append_right (by rw [natI_len]; omega)]
    simp [natI_len, i64]) ?_
   refine g_end ?_
   refine s_reg (g_run 4 (hq := by simp only [in64, and_true, true_and, List.length_append, List.length_singleton]; omega) ?_)
   refine prg_head (v' := i64 (t0.length : Nat)) (by simp only [List.length_append, List.length_singleton]; unfold i64; congr 2; omega) ?_
   refine g_end (hq := by simp) ?_
   refine p_weak [some 0, some 1, some 2, some 3, some 4, some 5, some 6, some 7] [] (wk _ [] (eT g first cap b e code.length (i64 (c : Nat))) (eN code x rest num row met (told.foldl nx s) t0) (vals := ?_) (blks := .cons (ew_sub rfl rfl (by simp) rfl) (.cons (em_sub rfl (by simp) rfl) (.cons (.cel rfl (by simp) rfl (.cons (.one (hv_sub rfl)) (vsubs_s _))) (.cons .dead (.cons (.cel rfl (by simp) rfl (.cons (.one (.ptr rfl)) .nil)) (.cons (.cel rfl (by simp) rfl (.cons (.one (.vec rfl rfl)) .nil)) (.cons (.vec rfl (by simp) rfl (by simp) (fun h => nomatch h) fun i hi => ?_) (.cons bs_same .nil))))))))) ?_
   ·exact .cons (.one (.junk _)) (.cons (.one (.junk _)) (.cons (.fn (ht.sub rfl).1 (ht.sub rfl).2) (.cons (.one (.ptr rfl)) (.cons (.nlv rfl) (.cons (.one (.junk _)) (.cons (.one (.junk _)) (.cons (.one (.ptr rfl)) (.cons (.fn .nil (.cons (.same rfl) (.cons (.same rfl) (.cons (.ptr rfl) (.cons (.same rfl) (.cons (.ptr rfl) .nil)))))) (.cons (.nlv rfl) (.cons (.one (.junk _)) (.cons (.one (.junk _)) .nil)))))))))))
   ·simp only [rowI, natI_snoc, List.getD_eq_getElem?_getD]
    rw [List.getElem?_append_left (by rw [natI_len]; exact hi)]
   refine s_reg ?_
   refine g_scall [2, 7] [] (args' := first 0 ++ [i64 (c : Nat)] ++ cap 0) (hpc := [.cel (hv x 1 (num (told.foldl nx s)) :: rest.map .s), .vec 1 (num (told.foldl nx s)) (row (told.foldl nx s)) false]) (ht.call (k := k + told.length) (by omega) (by omega) (inv_fold ht hs)) (wk _ [] _ _ (vals := vsubs_app (vsubs_app (vsubs_of1 (ht.sub rfl).1) (.cons (.nlv rfl) .nil)) (vsubs_of1 (ht.sub rfl).2)) (blks := .cons (.cel rfl (by simp) rfl (.cons (.one (hv_sub rfl)) (vsubs_s _))) (.cons bs_same .nil))) ?_
   rintro v hpc' ⟨rfl, rfl⟩
   refine ⟨rfl, ?_, by simp, ?_⟩
   ·simp only [List.all_cons, List.all_nil, rokB, rok_s, hv_rok, Bool.and_true]
   refine g_fin ?_
   refine p_weak [some 0, some 1, some 2, some 3, some 4, some 5, some 6, some 8] [] (wk _ [] (eT g first cap b e code.length (i64 (c : Nat))) (eN code x rest num row met ((told ++ [c]).foldl nx s) t0) (vals := et_sub (ht.sub rfl) rfl rfl (.nlv rfl)) (blks := ?_)) ?_
   ·rw [List.foldl_append]
    exact .cons (ew_sub rfl rfl (by simp) rfl) (.cons (em_sub rfl (by simp) rfl) (.cons (.cel rfl (by simp) rfl (.cons (.one (hv_subr rfl)) (vsubs_rs _ _))) (.cons .dead (.cons (.cel rfl (by simp) rfl (.cons (.one (.ptr rfl)) .nil)) (.cons (.cel rfl (by simp) rfl (.cons (.one (.vec rfl rfl)) .nil)) (.cons bs_same (.cons bs_same .nil)))))))
   unfold eN eW eM eT nextP treeP
   refine e_reg (g_run 6 ?_)
   refine prg_head (v' := encI (natI (nxN code c))) (by rw [next_nat]) ?_
   refine g_scall [0, 1, 4, 5, 6] [] (args' := [encI (natI (nxN code c)), .fptr 1 1 (fun _ => [i64 (e : Nat)]) 0 0, .fptr 1 1 (fun _ => [i64 (code.length : Nat)]) 0 0, .ptr 2 0, .fptr 1 1 (fun _ => [i64 (b : Nat)]) 0 0, .ptr 3 0]) (hpc := pH code false (met, t0)) (put_ok (hnl c) hW.w.len hn (by have := hnlen c; simp only; omega) (by have := hnlen c; omega) (by omega)) (wk _ [] _ _ (vals := .cons (.nlv rfl) (.cons (.nlv rfl) (.cons (.nlv rfl) (.cons (.one (.ptr rfl)) (.cons (.nlv rfl) (.cons (.one (.ptr rfl)) .nil)))))) (blks := .cons (ew_sub rfl rfl (by simp) rfl) (.cons bs_same (.cons (.cel rfl (by simp) rfl (.cons (.one (.ptr rfl)) .nil)) (.cons (.cel rfl (by simp) rfl (.cons (.one (.vec rfl rfl)) .nil)) (.cons bs_same .nil)))))) ?_
   rintro v hpc' ⟨rfl, m', rfl⟩
   refine ⟨rfl, by cases m' <;> rfl, by cases m' <;> simp [pH], ?_⟩
   refine g_fin ?_
   obtain ⟨σ', hw'⟩ := put_wk ht (b := b) (e := e) (z := code.length) (v9 := .junk) (met := met) (met' := (markL b e code.length (met, t0) (nxN code c)).1) (s := (told ++ [c]).foldl nx s) (todo := t0) (todo' := (markL b e code.length (met, t0) (nxN code c)).2) (T := eT g first cap b e code.length (i64 (c : Nat))) (fun h h4 h5 => et_sub h h4 h5 (.one (.junk _))) m'
   exact ⟨((markL b e code.length (met, t0) (nxN code c)).1, told ++ [c], (markL b e code.length (met, t0) (nxN code c)).2), wd_step hW hnl, by simp only [List.length_append, List.length_singleton]; omega, σ', [], hw'⟩
end
end Go.Proofs.Ytggaimcopbjdiaa.Graph
