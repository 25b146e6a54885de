/- post.All, whole, of one's own; tables against tables; two lists apart beside what else is there. -/
import Derived.Test.YtdbehmepikhghaaPtD
set_option linter.unusedVariables false
set_option linter.unusedSimpArgs false
set_option maxRecDepth 10000
namespace Go.Proofs.Ytdbehmepikhghaa.Graph
open Go.Proofs.Ytdbehmepikhghaa.AM Go.Proofs.Ytdbehmepikhghaa.Post
theorem allO_ok {f : Fn} (hf : Fit f.code) : PCall E [] 32 [encF f] [] (fun v hp => TreeR f.code (nrT f.code) ∧ v = .vec 1 0 (f.code.length + 1) ∧ ∃ lo, BTab hp 0 (f.code.length + 1) (f.code.length + 1) lo (rowD f.code) (fun _ => true)) := by
  have f1 := hf.len
  refine p_call (fun _ _ => rfl) rfl ?_
  show PTri E false [] _ [encF f, .junk, .junk, .junk, .junk, .junk, .junk, .junk, .junk, .junk, .junk] _ _
  refine s_run ?_
  refine s_reg (g_run 1 ?_)
  refine g_call (treeE hf) ?_
  rintro v ⟨hT, rfl⟩
  refine ⟨rfl, ?_⟩
  unfold encI
  rw [treeT_len]
  refine g_end ?_
  refine s_run ?_
  refine s_run ?_
  refine s_run ?_
  have hp1 : ∀ {σ : Sig} {hp : PH} {b : Nat} {v : PV}, hp[b]? = some (.cel [v]) → nlb v = true → b ∈ [1, 2] → VSub1 σ [1, 2] hp (.ptr b 0) (.fptr 1 1 (fun _ => [v]) 0 0) := fun {σ hp b v} hb hv hm => .ptrf hm hb (by omega) rfl (by simp) (by simp [hv]) fun i hi => by
    have : i = 0 := by omega
    subst this; rfl
  have hcl : ∀ j c, (List.replicate (f.code.length + 1) (PV.s (.slice none 0 0)))[j]? = some c → (List.map PV.s [Value.slice none 0 0]) = [c] := fun j c h => by
    rw [List.getElem?_replicate] at h
    split at h
    · cases h; rfl
    · cases h
  refine p_weak [some 3] [1, 2] (wk _ [1, 2] [.junk, .junk, .s (.slice none 0 0), .junk, .junk, .fn 62 [] [.fptr 1 1 (fun _ => [i64 (f.code.length + 1 : Nat)]) 0 0, .fptr 1 1 (fun _ => [.frz 1 (f.code.length + 1) (f.code.length + 1) (rowI .i64 (treeT f.code))]) 0 0], .vec 1 0 (f.code.length + 1), .junk, .junk, .junk, .junk] [.cel (List.replicate (f.code.length + 1) (.s (.slice none 0 0)))] (vals := ?_) (blks := .cons (.veccel rfl (by decide) rfl (Nat.succ_pos _) (by simp) hcl) .nil)) ?_
  · repeat' (first | exact VSubs.nil | apply VSubs.cons | exact VSub.one (VSub1.junk _) | exact VSub.nlv rfl | exact VSub.one (VSub1.vec rfl rfl) | exact VSub.fn .nil (.cons (hp1 rfl rfl (by decide)) (.cons (hp1 rfl rfl (by decide)) .nil)))
  refine s_ass (s_pure ?_)
  refine s_loopA (ι := Nat) (fun k hp => k ≤ f.code.length + 1 ∧ ∃ lo, BTab hp 0 (f.code.length + 1) k lo (rowD f.code) (fun _ => true)) (fun k => f.code.length + 1 - k) (fun k => aT f.code (i64 (k : Nat))) 0 ⟨Nat.zero_le _, 1, _, fun _ => 0, rfl, by simp, by decide, Nat.le_refl _, fun r hr => absurd hr (Nat.not_lt_zero _), fun r s hr => absurd hr (Nat.not_lt_zero _)⟩ (by (try dsimp only [aT]); repeat' (first | exact TSub.nil | apply TSub.same | apply TSub.junk)) ?_
  rintro k hp ⟨hk, lo, hB⟩
  unfold aT
  refine s_pure ?_
  refine s_cond (fun h1 => ?_) (fun h1 => ?_)
  · simp only [decide_eq_true_eq] at h1
    have hkn : k < f.code.length + 1 := by omega
    obtain ⟨cs, hbk, hcl⟩ : ∃ cs, hp[0]? = some (.cel cs) ∧ cs.length = f.code.length + 1 := by
      obtain ⟨cs, _, h, h', _⟩ := hB
      exact ⟨cs, h, h'⟩
    refine s_skip (s_block ?_)
    refine s_pure ?_
    refine e_reg ?_
    refine prg_ownR (P := True) ((allRowX_ok f1 hT hkn).mono fun v hp h => ⟨trivial, h⟩) (.cons (.nlv rfl) (.cons (.nlv rfl) (.cons (.nlv rfl) .nil))) fun v ap md1 cnt1 _ hv => ?_
    have hbk' : (hp ++ ap)[0]? = some (.cel cs) := by rw [List.getElem?_append_left (List.getElem?_eq_some_iff.1 hbk).1]; exact hbk
    refine prg_v (v := .eptr 1 0 k 0) (q := k < f.code.length + 1) rfl ?_ hkn rfl
    refine prg_cast eptr_ptr ?_
    refine prg_e (v := .junk) (q := True) (hp' := (hp ++ ap).set 0 (.cel (cs.set k v))) (by
      simp only [peff, pstore, psev, List.getElem?_cons_zero, List.getElem?_cons_succ, hbk', force_eq]
      have : Nat.ble (k + 1) cs.length = true := by rw [Nat.ble_eq]; omega
      simp [hv.cell.1, hv.cell.2.1, this, psplice]) ?_ trivial
    refine g_fin ?_
    refine e_pure ?_
    exact ⟨k + 1, ⟨hkn, _, hB.snoc hbk hkn hv rfl⟩, by dsimp only; omega, by (try dsimp only [aT]); repeat' (first | exact TSub.nil | apply TSub.same | apply TSub.junk)⟩
  · simp only [decide_eq_false_iff_not] at h1
    have hke : k = f.code.length + 1 := by omega
    subst hke
    refine s_exit ?_
    refine s_pure ?_
    exact p_ret (fin ⟨hT, rfl, lo, hB⟩)
theorem boolsX_ok (xs : List Bool) (hn : xs.length < 1000000000) {full : Bool} : PCall E [0] 20 [.exv 1 0 xs.length, encB xs] [.vec 1 xs.length (rowB xs) full] (fun v hp => v = .s (.bool true) ∧ hp = [.vec 1 xs.length (rowB xs) full]) := by
  obtain ⟨n, hxn⟩ : ∃ n, xs.length = n := ⟨_, rfl⟩
  unfold encB
  rw [hxn] at hn ⊢
  refine p_call (fun _ _ => rfl) rfl ?_
  show PTri E false [0] _ [.exv 1 0 n, .frz 1 n n (rowB xs), .junk, .junk, .junk, .junk, .junk] _ _
  refine s_run ?_
  refine s_ass (s_run ?_)
  refine s_cond (fun h => ?_) (fun h => ?_)
  · exfalso; simp at h
  refine s_skip (s_ass (s_run ?_))
  refine s_loop (fun i => i ≤ n) (fun i => n - i) (fun i => [.exv 1 0 n, .frz 1 n n (rowB xs), .s (.bool false), .s (.int .i64 (i : Nat)), .junk, .junk, .junk]) (fun _ => [.vec 1 n (rowB xs) full]) 0 (Nat.zero_le _) (σ := [some 0]) (fz := []) (wk _ [] _ _ (vals := .cons (.one (.exv rfl rfl)) (.cons (.nlv rfl) (.cons (.nlv rfl) (.cons (.nlv rfl) (.cons (.one (.junk _)) (.cons (.one (.junk _)) (.cons (.one (.junk _)) .nil))))))) (blks := .cons bs_same .nil)) ?_
  rintro i hi
  refine s_ass (s_run ?_)
  refine s_cond (fun h => ?_) (fun h => ?_)
  · simp only [decide_eq_true_eq] at h
    have hil : i < n := by omega
    refine s_skip (s_block (d_run ?_))
    refine e_cond (fun h2 => ?_) (fun h2 => ?_)
    · exfalso; simp at h2
    · refine p_skip (e_run ?_)
      exact lp_next (i + 1) (by omega) (σ := [some 0]) (fz := []) (wk _ [] _ _ (vals := .cons (.one (.exv rfl rfl)) (.cons (.nlv rfl) (.cons (.nlv rfl) (.cons (.nlv rfl) (.cons (.one (.junk _)) (.cons (.one (.junk _)) (.cons (.one (.junk _)) .nil))))))) (blks := .cons bs_same .nil))
  · simp only [decide_eq_false_iff_not] at h
    refine s_exit ?_
    refine s_run ?_
    exact p_ret (fin ⟨rfl, rfl⟩)
section
variable {T L : List PV} {O : List Bool} {md : List Nat} {cnt lo l0 : Nat} {hp hp' : PH} {dr : Bool} {p : List Nat} {ops : List AOper} {Q : List PV → PH → Prop} {gd : Option (AM.Src × Bool)}
/-- A row of one's own against what it holds. -/
theorem prg_boolsO {x y : AM.Src} {xs : List Bool} {b : Nat} {full : Bool} (hx : psev T L x = some (.exv 1 b xs.length)) (hy : psev T L y = some (encB xs)) (hb : hp[b]? = some (.vec 1 xs.length (rowB xs) full)) (hn : xs.length < 1000000000) (hk : ∀ md' cnt', PRg E p dr T ops l0 ⟨.s (.bool true) :: L, false :: O, hp, md', cnt'⟩ Q) (hg : pwanted T L gd = some true := by rfl) : PRg E p dr T (⟨.call (.func 20) [x, y], gd, lo⟩ :: ops) l0 ⟨L, O, hp, md, cnt⟩ Q := by
  refine prg_kcall (st := ⟨L, O, hp, md, cnt⟩) (vs := [.exv 1 b xs.length, encB xs]) (x := b) (w := .s (.bool true)) hb (boolsX_ok xs hn) (.cons (.one (.exv rfl rfl)) (.cons (.nlv rfl) .nil)) rfl rfl (fun _ => rfl) hk rfl ?_ hg
  simp only [pevs, hx, hy]
theorem rowsO_ok {bk m lo : Nat} {row : Nat → List Bool} (hm : m ≤ 1000000) (hl : ∀ i, i < m → (row i).length ≤ 1000000) (hB : BTab hp bk m m lo row (fun _ => true)) : PCall E p 35 [.vec 1 bk m, .frz 1 m m fun i => [encB (row i)]] hp (fun v hp' => v = .s (.bool true) ∧ hp' = hp) := by
  refine p_call (fun _ _ => rfl) rfl ?_
  show PTri E false p _ [.vec 1 bk m, .frz 1 m m fun i => [encB (row i)], .junk, .junk, .junk, .junk, .junk] hp _
  refine s_pure ?_
  refine s_ass (s_pure ?_)
  refine s_cond (fun h => ?_) (fun h => ?_)
  · exfalso; simp at h
  refine s_skip (s_ass (s_pure ?_))
  refine s_loopA (ι := Nat) (fun i hp' => i ≤ m ∧ hp' = hp) (fun i => m - i) (fun i => [.vec 1 bk m, .frz 1 m m fun i => [encB (row i)], .s (.bool false), i64 (i : Nat), .junk, .junk, .junk]) 0 ⟨Nat.zero_le _, rfl⟩ (by repeat' (first | exact TSub.nil | apply TSub.same | apply TSub.junk)) ?_
  rintro i hp' ⟨hi, hpe⟩
  rw [hpe]
  refine s_ass (s_pure ?_)
  refine s_cond (fun h1 => ?_) (fun h1 => ?_)
  · simp only [decide_eq_true_eq] at h1
    have hi' : i < m := by omega
    obtain ⟨cs, b, f, full, hbk, hcl, hcv, hblo, hb, hfe⟩ := hB.at' hi'
    obtain rfl := hfe rfl
    refine s_skip (s_block (s_drw ?_))
    refine prg_v (v := .eptr 1 bk i 0) (q := i < m) rfl ?_ hi' rfl
    refine prg_cast eptr_ptr ?_
    refine prg_v (v := .exv 1 b (row i).length) (q := True) (by simp only [pval, psev, List.getElem?_cons_zero, pload, hbk, pcells, hcv]; rfl) ?_ trivial rfl
    refine g_pureG 2 ?_
    refine prg_boolsO (xs := row i) rfl rfl hb (by have := hl i hi'; omega) fun md1 cnt1 => ?_
    refine g_pureD 1 fun O3 => ?_
    refine g_fin ?_
    refine e_f ?_
    refine p_skip ?_
    refine e_pure ?_
    exact ⟨i + 1, ⟨by omega, rfl⟩, by dsimp only; omega, by repeat' (first | exact TSub.nil | apply TSub.same | apply TSub.junk)⟩
  · refine s_exit ?_
    refine s_pure ?_
    exact p_ret (fin ⟨rfl, rfl⟩)
theorem rowsF_ok {m : Nat} {row row' : Nat → List Bool} (hm : m ≤ 1000000) (hl : ∀ i, i < m → (row i).length ≤ 1000000) (he : ∀ i, i < m → row i = row' i) : PFun E 35 [.frz 1 m m fun i => [encB (row i)], .frz 1 m m fun i => [encB (row' i)]] (valQ (isV (.s (.bool true)))) := by
  refine p_fun ?_
  show PTri E false [] _ [.frz 1 m m fun i => [encB (row i)], .frz 1 m m fun i => [encB (row' i)], .junk, .junk, .junk, .junk, .junk] _ _
  refine s_run ?_
  refine s_ass (s_run ?_)
  refine s_cond (fun h => ?_) (fun h => ?_)
  · exfalso; simp at h
  refine s_skip (s_ass (s_run ?_))
  refine s_loop (ι := Nat) (fun i => i ≤ m) (fun i => m - i) (fun i => [.frz 1 m m fun i => [encB (row i)], .frz 1 m m fun i => [encB (row' i)], .s (.bool false), i64 (i : Nat), .junk, .junk, .junk]) (fun _ => []) 0 (Nat.zero_le _) (σ := []) (fz := []) (wk _ [] _ _ (vals := by (repeat' (first | exact VSubs.nil | apply VSubs.cons | exact VSub.one (VSub1.junk _) | exact VSub.nlv rfl))) (blks := .nil)) ?_
  intro i hi
  refine s_ass (s_run ?_)
  refine s_cond (fun h1 => ?_) (fun h1 => ?_)
  · simp only [decide_eq_true_eq] at h1
    have hi' : i < m := by omega
    refine s_skip (s_block (s_drw (g_run 4 ?_)))
    refine g_call (bools_ok (row i) (row' i) (by have := hl i hi'; omega)) ?_
    rintro v rfl
    rw [decide_eq_true (he i hi')]
    refine ⟨rfl, ?_⟩
    refine g_end ?_
    refine e_f ?_
    refine p_skip ?_
    refine e_run ?_
    exact lp_next (i + 1) (by omega) (σ := []) (fz := []) (wk _ [] _ _ (vals := by (repeat' (first | exact VSubs.nil | apply VSubs.cons | exact VSub.one (VSub1.junk _) | exact VSub.nlv rfl))) (blks := .nil))
  · refine s_exit ?_
    refine s_run ?_
    exact p_ret fin_v
/-- What a call leaves, told as all dead. -/
theorem call_dead {g : FuncId} {args : List PV} {P : PV → Prop} {n : Nat} (hc : PCall E [] g args hp (fun v _ => P v)) (hP : ∀ v, P v → nlv v = true) (hn : ∀ b, b < n → hp[b]? ≠ none) : PCall E (List.range n) g args hp (fun v hp' => P v ∧ hp' = hp.map fun _ => PB.dead) := by
  intro F ρ H avs hr ha
  refine (hc F ρ H avs hr ha).mono fun r hg => ?_
  obtain ⟨F', ρ', hp', v, a1, a2, a3, a4, a5⟩ := hg
  have hdead : ∀ b B, (hp.map (fun _ => PB.dead))[b]? = some B → B = PB.dead := fun b B h => by
    rw [List.getElem?_map] at h
    cases hq : hp[b]? with
    | none => rw [hq] at h; cases h
    | some C => rw [hq] at h; cases h; rfl
  refine ⟨F', ρ, hp.map (fun _ => PB.dead), v, ⟨a1.size, a1.fmono, a1.fget, a1.fnew, a1.keep, fun a h => .inl h, fun d h => .inl h⟩, fun _ _ _ h => h, ⟨a3.fsz, fun b B h => ?_, fun b b' B B' a e e' g1 g2 d1 d2 q1 q2 => absurd (hdead _ _ g1) d1, fun b hb => hr.dom b (by simpa using hb), fun b a e h => Nat.lt_of_lt_of_le (hr.own b a e h) a1.size, (fun d h => nomatch h), List.nodup_nil⟩, nlv_ok a4 (hP v a5), a5, rfl⟩
  rw [hdead b B h]; trivial
theorem sgInj_of {σ : Sig} (h : ∀ b c i : Nat, σ[b]? = some (some i) → σ[c]? = some (some i) → b = c) : sgInj σ = true := by
  unfold sgInj
  refine List.all_eq_true.2 fun b hb => List.all_eq_true.2 fun c hc => ?_
  split
  · next i j e1 e2 =>
    by_cases hij : i = j
    · subst hij
      rw [h b c i e1 e2]
      simp
    · have : Nat.beq i j = false := by
        rw [← Bool.not_eq_true, Nat.beq_eq]; exact hij
      simp [this]
  · simp
/-- Two lists of one's own are apart; what else is there stays. -/
theorem prg_apart2 {x : AM.Src} {bk b1 b2 n1 n2 : Nat} {f1 f2 : Nat → List PV} {u1 u2 : Bool} (hx : psev T L x = some (.vec 1 bk 2)) (hb : hp[bk]? = some (.cel [.exv 1 b1 n1, .exv 1 b2 n2])) (h1 : hp[b1]? = some (.vec 1 n1 f1 u1)) (h2 : hp[b2]? = some (.vec 1 n2 f2 u2)) (hne : b1 ≠ b2)
    (hn1 : n1 ≤ 1000000) (hn2 : n2 ≤ 1000000) (l1 : ∀ j, j < n1 → (f1 j).length = 1) (l2 : ∀ j, j < n2 → (f2 j).length = 1)
    (hk : ∀ hp' md' cnt', (hp'.length = hp.length ∧ ∀ b, b ≠ bk → b ≠ b1 → b ≠ b2 → hp'[b]? = hp[b]?) → PRg E p dr T ops l0 ⟨.s (.bool true) :: L, false :: O, hp', md', cnt'⟩ Q) (hg : pwanted T L gd = some true := by rfl) : PRg E p dr T (⟨.call (.func 26) [x], gd, lo⟩ :: ops) l0 ⟨L, O, hp, md, cnt⟩ Q := by
  have d1 : bk ≠ b1 := fun e => by rw [e, h1] at hb; cases hb
  have d2 : bk ≠ b2 := fun e => by rw [e, h2] at hb; cases hb
  have hT : TabI [.cel [.exv 1 1 n1, .exv 1 2 n2], .vec 1 n1 f1 u1, .vec 1 n2 f2 u2] 0 2 3 (fun r => if r = 0 then n1 else n2) (fun _ _ => False) := by
    refine ⟨_, rfl, rfl, fun r => r + 1, fun r hr => ?_, fun r s _ _ _ _ e => by simpa using e⟩
    match r, hr with
    | 0, _ => exact ⟨hn1, .inr ⟨rfl, by decide, f1, u1, rfl, l1, fun _ _ h => h.elim⟩⟩
    | 1, _ => exact ⟨hn2, .inr ⟨rfl, by decide, f2, u2, rfl, l2, fun _ _ h => h.elim⟩⟩
    | r + 2, h => exact absurd h (by simp)
  refine prg_scall (st := ⟨L, O, hp, md, cnt⟩) (vs := [.vec 1 bk 2]) (args' := [.vec 1 0 2]) (hpc := [.cel [.exv 1 1 n1, .exv 1 2 n2], .vec 1 n1 f1 u1, .vec 1 n2 f2 u2]) (first := []) (cap := []) [bk, b1, b2] [] rfl (by simp only [pevs, hx]) hg ⟨rfl, rfl, sgInj_of ?_, .cons (.one (.vec rfl rfl)) .nil, .cons (.cel rfl (by simp) hb (.cons (.one (.exv rfl rfl)) (.cons (.one (.exv rfl rfl)) .nil))) (.cons (.vec rfl (by simp) h1 (Nat.le_refl _) (fun h => ⟨h, rfl⟩) fun _ _ => rfl) (.cons (.vec rfl (by simp) h2 (Nat.le_refl _) (fun h => ⟨h, rfl⟩) fun _ _ => rfl) .nil))⟩ (by simp [liveIn, hb, h1, h2]) (call_dead (P := fun v => v = .s (.bool true)) (apart_ok (m := 2) (by decide) hT) (fun v h => by rw [h]; rfl) (fun b hb => by
      match b, hb with
      | 0, _ => exact fun h => nomatch h
      | 1, _ => exact fun h => nomatch h
      | 2, _ => exact fun h => nomatch h
      | b + 3, h => exact absurd h (by simp))) fun v hpc' hq => ?_
  · intro b c i e1 e2
    match b, c with
    | 0, 0 => rfl
    | 1, 1 => rfl
    | 2, 2 => rfl
    | 0, 1 => cases e1; cases e2; exact absurd rfl d1
    | 0, 2 => cases e1; cases e2; exact absurd rfl d2
    | 1, 0 => cases e1; cases e2; exact absurd rfl d1
    | 1, 2 => cases e1; cases e2; exact absurd rfl hne
    | 2, 0 => cases e1; cases e2; exact absurd rfl d2
    | 2, 1 => cases e1; cases e2; exact absurd rfl hne
    | b + 3, _ => simp at e1
    | _, c + 3 => simp at e2
  · obtain ⟨rfl, rfl⟩ := hq
    refine ⟨rfl, rfl, Nat.le_refl _, hk _ _ _ ⟨by unfold emb; rw [putL_len]; rfl, fun b q1 q2 q3 => ?_⟩⟩
    have hlen : (emb [bk, b1, b2] [] hp (List.map (fun _ => PB.dead) [PB.cel [.exv 1 1 n1, .exv 1 2 n2], .vec 1 n1 f1 u1, .vec 1 n2 f2 u2])).length = hp.length := by unfold emb; rw [putL_len]; rfl
    by_cases hbl : b < hp.length
    · have hb' : b < (emb [bk, b1, b2] [] hp (List.map (fun _ => PB.dead) [PB.cel [.exv 1 1 n1, .exv 1 2 n2], .vec 1 n1 f1 u1, .vec 1 n2 f2 u2])).length := by rw [hlen]; exact hbl
      rw [List.getElem?_eq_getElem hb']
      rcases putL_at _ _ _ _ _ _ _ _ (List.getElem?_eq_getElem hb') with ⟨C, c1, c2⟩ | ⟨c1, _⟩
      · have hi : inv [bk, b1, b2] b = none := by
          have z1 : Nat.beq bk b = false := by rw [← Bool.not_eq_true, Nat.beq_eq]; exact fun e => q1 e.symm
          have z2 : Nat.beq b1 b = false := by rw [← Bool.not_eq_true, Nat.beq_eq]; exact fun e => q2 e.symm
          have z3 : Nat.beq b2 b = false := by rw [← Bool.not_eq_true, Nat.beq_eq]; exact fun e => q3 e.symm
          simp [inv, z1, z2, z3]
        rw [Nat.zero_add] at c2
        unfold putB at c2
        rw [hi] at c2
        simp only [List.contains_nil, cond_false] at c2
        rw [c1]
        exact congrArg some c2
      · omega
    · exact (List.getElem?_eq_none (Nat.le_trans (Nat.le_of_eq hlen) (Nat.le_of_not_lt hbl))).trans (List.getElem?_eq_none (Nat.le_of_not_lt hbl)).symm
end
end Go.Proofs.Ytdbehmepikhghaa.Graph
