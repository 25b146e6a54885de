/- post.All, with rows of its own; tables of rows of truth values. -/
import Derived.Test.YtdbehmepikhghaaPtC
import Derived.Test.YtdbehmepikhghaaTabE
import Derived.Test.YtdbehmepikhghaaPtM
set_option linter.unusedVariables false
set_option linter.unusedSimpArgs false
set_option maxRecDepth 10000
namespace Go.Proofs.Ytdbehmepikhghaa.Graph
open Go.Proofs.Ytdbehmepikhghaa.AM Go.Proofs.Ytdbehmepikhghaa.Post
section
variable {T L : List PV} {O : List Bool} {md : List Nat} {cnt lo l0 : Nat} {hp hp' : PH} {dr : Bool} {p : List Nat} {ops : List AOper} {Q : List PV → PH → Prop} {gd : Option (AM.Src × Bool)}
/-- A call that tells a list of one's own. -/
theorem prg_ownR {fs : AM.Src} {args : List AM.Src} {g : FuncId} {first cap vs args' : List PV} {n : Nat} {r : Nat → List PV} {full : Bool} {P : Prop} (hc : PCall E [] g args' [] (fun v hp => P ∧ v = .exv 1 0 n ∧ hp = [.vec 1 n r full])) (hv : VSubs [] [] hp (first ++ vs ++ cap) args')
    (hk : ∀ v ap md' cnt', P → OwnV (hp ++ ap) v n r hp.length (hp ++ ap).length → PRg E p dr T ops l0 ⟨v :: L, false :: O, hp ++ ap, md', cnt'⟩ Q)
    (h1 : psev T L fs = some (.fn g first cap) := by rfl) (h2 : pevs (psev T L) args = some vs := by rfl) (hg : pwanted T L gd = some true := by rfl) : PRg E p dr T (⟨.call fs args, gd, lo⟩ :: ops) l0 ⟨L, O, hp, md, cnt⟩ Q := by
  refine prg_ocall (st := ⟨L, O, hp, md, cnt⟩) hc hv (fun v hpc' md' cnt' hq => ?_) h1 h2 hg
  obtain ⟨hP, e1, e2⟩ := hq
  have hl := own_lift (hp := hp) e1 e2
  refine ⟨by rw [e1]; rfl, by rw [e2]; rfl, ?_⟩
  exact hk _ _ md' cnt' hP hl
/-- A list of truth values of one's own, with no more room, alone. -/
def rowQ (xs : List Bool) : PV → PH → Prop := fun v hp => v = .exv 1 0 xs.length ∧ hp = [.vec 1 xs.length (rowB xs) false]
theorem rowQ_eq {xs : List Bool} {n : Nat} (h : xs.length = n) : rowQ xs = fun v hp => v = .exv 1 0 n ∧ hp = [.vec 1 n (rowB xs) false] := by subst h; rfl
/-- A row, of which one knows (x) or not that it has no more room. -/
def hvx (x : Bool) (b n : Nat) : PV := match x with
  | true => .exv 1 b n
  | false => .vec 1 b n
/-- A table of m rows of truth values: the first k are told, each a list of one's own, no two the same, all below lo. -/
def BTab (hp : PH) (bk m k lo : Nat) (row : Nat → List Bool) (ex : Nat → Bool) : Prop := ∃ (cs : List PV) (ptr : Nat → Nat), hp[bk]? = some (.cel cs) ∧ cs.length = m ∧ bk < lo ∧ lo ≤ hp.length ∧ (∀ r, r < k → cs[r]? = some (hvx (ex r) (ptr r) (row r).length) ∧ ptr r < lo ∧ ∃ f full, hp[ptr r]? = some (.vec 1 (row r).length f full) ∧ (ex r = true → f = rowB (row r)) ∧ ∀ j, j < (row r).length → f j = rowB (row r) j) ∧ ∀ r s, r < k → s < k → ptr r = ptr s → r = s
theorem BTab.keep {bk m k lo : Nat} {row : Nat → List Bool} {ex : Nat → Bool} (h : BTab hp bk m k lo row ex) (hk : ∀ b, b < lo → hp'[b]? = hp[b]?) (hl : lo ≤ hp'.length) : BTab hp' bk m k lo row ex := by
  obtain ⟨cs, ptr, h1, h2, h3, h4, h5, h6⟩ := h
  refine ⟨cs, ptr, by rw [hk bk h3]; exact h1, h2, h3, hl, fun r hr => ?_, h6⟩
  obtain ⟨q1, q2, f, full, q3, q4⟩ := h5 r hr
  exact ⟨q1, q2, f, full, by rw [hk _ q2]; exact q3, q4⟩
theorem BTab.app {bk m k lo : Nat} {row : Nat → List Bool} {ex : Nat → Bool} (h : BTab hp bk m k lo row ex) (l : PH) : BTab (hp ++ l) bk m k lo row ex := by
  have hl : lo ≤ hp.length := by obtain ⟨_, _, _, _, _, h, _⟩ := h; exact h
  exact h.keep (fun b hb => List.getElem?_append_left (by omega)) (by simp; omega)
theorem BTab.congr {bk m k lo : Nat} {row row' : Nat → List Bool} {ex ex' : Nat → Bool} (h : BTab hp bk m k lo row ex) (hr : ∀ r, r < k → row r = row' r) (he : ∀ r, r < k → ex r = ex' r) : BTab hp bk m k lo row' ex' := by
  obtain ⟨cs, ptr, h1, h2, h3, h4, h5, h6⟩ := h
  exact ⟨cs, ptr, h1, h2, h3, h4, fun r hk => by rw [← hr r hk, ← he r hk]; exact h5 r hk, h6⟩
theorem BTab.at' {bk m k lo i : Nat} {row : Nat → List Bool} {ex : Nat → Bool} (h : BTab hp bk m k lo row ex) (hi : i < k) : ∃ cs b f full, hp[bk]? = some (.cel cs) ∧ cs.length = m ∧ cs[i]? = some (hvx (ex i) b (row i).length) ∧ b < lo ∧ hp[b]? = some (.vec 1 (row i).length f full) ∧ (ex i = true → f = rowB (row i)) := by
  obtain ⟨cs, ptr, h1, h2, h3, h4, h5, h6⟩ := h
  obtain ⟨q1, q2, f, full, q3, q4, _⟩ := h5 i hi
  exact ⟨cs, ptr i, f, full, h1, h2, q1, q2, q3, q4⟩
/-- One row more. -/
theorem BTab.snoc {bk m k lo : Nat} {row : Nat → List Bool} {ex : Nat → Bool} {cs : List PV} {v : PV} {ap : PH} (h : BTab hp bk m k lo row ex) (hbk : hp[bk]? = some (.cel cs)) (hk : k < m) (hv : OwnV (hp ++ ap) v (row k).length (rowB (row k)) hp.length (hp ++ ap).length) (hx : ex k = true) : BTab ((hp ++ ap).set bk (.cel (cs.set k v))) bk m (k + 1) (hp ++ ap).length row ex := by
  obtain ⟨cs', ptr, h1, h2, h3, h4, h5, h6⟩ := h
  rw [hbk] at h1; cases h1
  obtain ⟨b, full, rfl, g2, g3, g4⟩ := hv
  have hbl : bk < (hp ++ ap).length := by rw [List.length_append]; omega
  refine ⟨_, fun r => if r = k then b else ptr r, List.getElem?_set_self hbl, by simpa using h2, hbl, by simp, fun r hr => ?_, fun r s hr hs e => ?_⟩
  · by_cases e : r = k
    · subst e
      simp only [if_true]
      rw [hx]
      refine ⟨List.getElem?_set_self (by omega), g3, _, full, ?_, fun _ => rfl, fun j hj => rfl⟩
      rw [List.getElem?_set_ne (by omega)]; exact g4
    · simp only [if_neg e]
      obtain ⟨q1, q2, f, full', q3, q4⟩ := h5 r (by omega)
      have hne : bk ≠ ptr r := fun x => by rw [← x, hbk] at q3; cases q3
      refine ⟨by rw [List.getElem?_set_ne (Ne.symm e)]; exact q1, by rw [List.length_append]; omega, f, full', ?_, q4⟩
      rw [List.getElem?_set_ne hne, List.getElem?_append_left (by omega)]; exact q3
  · dsimp only at e
    by_cases e1 : r = k
    · by_cases e2 : s = k
      · rw [e1, e2]
      · rw [if_pos e1, if_neg e2] at e
        have := (h5 s (by omega)).2.1
        omega
    · rw [if_neg e1] at e
      by_cases e2 : s = k
      · rw [if_pos e2] at e
        have := (h5 r (by omega)).2.1
        omega
      · rw [if_neg e2] at e
        exact h6 r s (by omega) (by omega) e
theorem rowB_setF {xs : List Bool} {k : Nat} {v : Bool} (hk : k < xs.length) : (fun j => if j = k then [PV.s (.bool v)] else rowB xs j) = rowB (xs.set k v) := by
  funext j
  unfold rowB
  by_cases e : j = k
  · subst e
    rw [if_pos rfl, List.getD_eq_getElem?_getD, List.getElem?_set_self hk]; rfl
  · rw [if_neg e]
    show [PV.s (.bool (xs.getD j false))] = _
    rw [List.getD_eq_getElem?_getD, List.getD_eq_getElem?_getD, List.getElem?_set_ne (Ne.symm e)]
theorem rowB_set {xs : List Bool} {k : Nat} {v : Bool} {f : Nat → List PV} (hk : k < xs.length) (hf : ∀ j, j < xs.length → f j = rowB xs j) {j : Nat} (hj : j < xs.length) : (if j = k then [PV.s (.bool v)] else f j) = rowB (xs.set k v) j := by
  unfold rowB
  by_cases e : j = k
  · subst e
    rw [if_pos rfl, List.getD_eq_getElem?_getD, List.getElem?_set_self hk]; rfl
  · rw [if_neg e, hf j hj, List.getD_eq_getElem?_getD, List.getElem?_set_ne (Ne.symm e), ← List.getD_eq_getElem?_getD]; rfl
/-- One value written. -/
theorem BTab.put {bk m lo i j b : Nat} {row : Nat → List Bool} {ex : Nat → Bool} {cs : List PV} {f : Nat → List PV} {full v : Bool} (h : BTab hp bk m m lo row ex) (hbk : hp[bk]? = some (.cel cs)) (hi : i < m) (hj : j < (row i).length) (hx : ex i = true) (hb : cs[i]? = some (.exv 1 b (row i).length)) (hf : hp[b]? = some (.vec 1 (row i).length f full)) :
    BTab (hp.set b (.vec 1 (row i).length (fun q => if q = j then [.s (.bool v)] else f q) full)) bk m m lo (fun r => if r = i then (row i).set j v else row r) ex := by
  obtain ⟨cs', ptr, h1, h2, h3, h4, h5, h6⟩ := h
  rw [hbk] at h1; cases h1
  have hbl := (List.getElem?_eq_some_iff.1 hf).1
  have hpi : ptr i = b := by
    have := (h5 i hi).1
    rw [hb, hx] at this
    cases this; rfl
  have hne : b ≠ bk := fun x => by rw [x, hbk] at hf; cases hf
  refine ⟨cs, ptr, by rw [List.getElem?_set_ne hne]; exact hbk, h2, h3, by simpa using h4, fun r hr => ?_, h6⟩
  obtain ⟨q1, q2, f', full', q3, q4⟩ := h5 r hr
  by_cases e : r = i
  · subst e
    simp only [if_true, List.length_set]
    rw [hpi] at q3 q2 ⊢
    rw [hf] at q3; cases q3
    exact ⟨by rw [hb, hx]; rfl, q2, _, _, List.getElem?_set_self hbl, fun _ => by rw [q4.1 hx]; exact rowB_setF hj, fun q hq => rowB_set hj q4.2 hq⟩
  · simp only [if_neg e]
    have hn2 : b ≠ ptr r := fun x => e (h6 r i hr hi (by rw [hpi, x]))
    exact ⟨q1, q2, f', full', by rw [List.getElem?_set_ne hn2]; exact q3, q4⟩
/-- A row told anew. -/
theorem BTab.grow {bk m lo i b : Nat} {row : Nat → List Bool} {ex : Nat → Bool} {cs : List PV} {g : Nat → List PV} {full : Bool} {xs : List Bool} (h : BTab hp bk m m lo row ex) (hbk : hp[bk]? = some (.cel cs)) (hi : i < m) (hlo : lo ≤ b) (hpre : ∀ q, q < lo → hp'[q]? = hp[q]?) (hnew : hp'[b]? = some (.vec 1 xs.length g full)) (hg : ∀ q, q < xs.length → g q = rowB xs q) :
    BTab (hp'.set bk (.cel (cs.set i (.vec 1 b xs.length)))) bk m m hp'.length (fun r => if r = i then xs else row r) (fun r => if r = i then false else ex r) := by
  obtain ⟨cs', ptr, h1, h2, h3, h4, h5, h6⟩ := h
  rw [hbk] at h1; cases h1
  have hbl := (List.getElem?_eq_some_iff.1 hnew).1
  refine ⟨_, fun r => if r = i then b else ptr r, List.getElem?_set_self (by omega), by simpa using h2, by omega, by simp, fun r hr => ?_, fun r s hr hs e => ?_⟩
  · by_cases e : r = i
    · subst e
      simp only [if_true]
      exact ⟨by rw [List.getElem?_set_self (by omega)]; rfl, hbl, g, full, by rw [List.getElem?_set_ne (by omega)]; exact hnew, (fun h => nomatch h), hg⟩
    · simp only [if_neg e]
      obtain ⟨q1, q2, f, full', q3, q4⟩ := h5 r hr
      have hne : bk ≠ ptr r := fun x => by rw [← x, hbk] at q3; cases q3
      refine ⟨by rw [List.getElem?_set_ne (Ne.symm e)]; exact q1, by omega, f, full', by rw [List.getElem?_set_ne hne, hpre _ q2]; exact q3, q4⟩
  · dsimp only at e
    by_cases e1 : r = i
    · by_cases e2 : s = i
      · rw [e1, e2]
      · rw [if_pos e1, if_neg e2] at e
        have := (h5 s hs).2.1
        omega
    · rw [if_neg e1] at e
      by_cases e2 : s = i
      · rw [if_pos e2] at e
        have := (h5 r hr).2.1
        omega
      · rw [if_neg e2] at e
        exact h6 r s hr hs e
/-- All of it frozen. -/
theorem BTab.frz {bk m lo : Nat} {row : Nat → List Bool} {ex : Nat → Bool} (h : BTab hp bk m m lo row ex) : ∃ fz : List Nat, ∀ σ, VSub1 σ fz hp (.vec 1 bk m) (.frz 1 m m fun i => [encB (row i)]) := by
  obtain ⟨cs, ptr, h1, h2, h3, h4, h5, h6⟩ := h
  refine ⟨bk :: (List.range m).map ptr, fun σ => ?_⟩
  refine .vecc List.mem_cons_self h1 (by omega) rfl (fun i hi => rfl) fun i hi => ?_
  obtain ⟨q1, q2, f, full, q3, _, q4⟩ := h5 i hi
  have hm : ptr i ∈ bk :: (List.range m).map ptr := List.mem_cons_of_mem _ (List.mem_map.2 ⟨i, List.mem_range.2 hi, rfl⟩)
  rw [List.getD_eq_getElem?_getD, q1]
  cases ex i with
  | true => exact .exvf hm q3 rfl (Nat.le_refl _) q4
  | false => exact .vecf hm q3 rfl (Nat.le_refl _) (Nat.le_refl _) q4
end
noncomputable def lX (code : List (Int × Int)) (p : Nat) (x5 : PV) : List PV := [i64 (p : Nat), .fptr 1 1 (fun _ => [i64 (code.length + 1 : Nat)]) 0 0, .fptr 1 1 (fun _ => [.frz 1 (code.length + 1) (code.length + 1) (rowI .i64 (treeT code))]) 0 0, .s (.slice none 0 0), .exv 1 0 (code.length + 1), x5, .junk]
theorem allRowX_ok {code : List (Int × Int)} (hn : code.length < 1000000) (hT : TreeR code (nrT code)) {p : Nat} (hp : p < code.length + 1) : PCall E [] 62 [i64 (p : Nat), .fptr 1 1 (fun _ => [i64 (code.length + 1 : Nat)]) 0 0, .fptr 1 1 (fun _ => [.frz 1 (code.length + 1) (code.length + 1) (rowI .i64 (treeT code))]) 0 0] [] (rowQ (rowD code p)) := by
  obtain ⟨pl, hpl⟩ := hT.up
  refine p_call (fun _ _ => rfl) rfl ?_
  show PTri E false [] _ [i64 (p : Nat), .fptr 1 1 (fun _ => [i64 (code.length + 1 : Nat)]) 0 0, .fptr 1 1 (fun _ => [.frz 1 (code.length + 1) (code.length + 1) (rowI .i64 (treeT code))]) 0 0, .junk, .junk, .junk, .junk] _ _
  refine p_post ?_
  refine s_run ?_
  refine s_reg (g_run 1 ?_)
  refine prg_mkx (n := code.length + 1) rfl rfl rfl (by constructor <;> omega) ?_
  refine g_end ?_
  refine s_ass (s_run ?_)
  refine s_loop (ι := Option Nat × List Bool) (fun i => AlI code p i.1 i.2) (fun i => abM pl i.1) (fun i => lX code p (i64 (ofN i.1))) (fun i => [.vec 1 (code.length + 1) (rowB i.2) true]) (some p, List.replicate (code.length + 1) false) al_first (σ := [some 0]) (wk _ [] _ _ (vals := ?_) (blks := .cons (bs_vec rfl fun j hj => rowB_rep _ _) .nil)) ?_
  · unfold lX
    repeat' (first | exact VSubs.nil | apply VSubs.cons | exact VSub.one (VSub1.junk _) | exact VSub.nlv rfl | exact VSub.one (VSub1.exv rfl rfl))
  rintro ⟨c, bs⟩ hA
  simp only at hA
  unfold lX
  refine s_ass (s_reg (g_run 1 ?_))
  cases c with
  | none =>
    refine prg_head (v' := .s (.bool false)) rfl ?_
    refine g_end ?_
    refine s_f (s_exit ?_)
    refine s_run ?_
    rw [al_end hA (.inr rfl)]
    refine p_ret ?_
    rw [rowQ_eq (rowD_len _ _)]
    exact ⟨[some 0], [], [.junk, .junk, .junk, .exv 1 0 (code.length + 1), .junk, .junk, .junk], [.vec 1 (code.length + 1) (rowB (rowD code p)) false], wk _ [] _ _ (vals := by (repeat' (first | exact VSubs.nil | apply VSubs.cons | exact VSub.one (VSub1.junk _) | exact VSub.one (VSub1.exv rfl rfl)))) (blks := .cons (.vec rfl (by simp) rfl (Nat.le_refl _) (fun h => nomatch h) fun _ _ => rfl) .nil), fin ⟨rfl, rfl⟩⟩
  | some d =>
    refine prg_head (v' := .s (.bool true)) (by simp [ofN]) ?_
    refine g_run 4 ?_
    rw [treeT_at hp]
    refine g_run 1 ?_
    cases hnr : nrT code p with
    | none =>
      have hpx : p ≠ code.length := fun e => by rw [e, hT.ex] at hnr; cases hnr
      refine prg_head (v' := .s (.bool false)) (by rw [if_neg hpx]; rfl) ?_
      refine g_run 4 ?_
      refine prg_head (v' := i64 (code.length : Nat)) (by unfold i64; congr 2; omega) ?_
      refine g_run 1 ?_
      refine prg_head (v' := .s (.bool false)) (by
        have : ¬ ((p : Nat) : Int) = ((code.length : Nat) : Int) := by omega
        simp [this]) ?_
      refine g_end ?_
      refine s_f (s_exit ?_)
      refine s_run ?_
      rw [al_end hA (.inl hnr)]
      refine p_ret ?_
      rw [rowQ_eq (rowD_len _ _)]
      exact ⟨[some 0], [], [.junk, .junk, .junk, .exv 1 0 (code.length + 1), .junk, .junk, .junk], [.vec 1 (code.length + 1) (rowB (rowD code p)) false], wk _ [] _ _ (vals := by (repeat' (first | exact VSubs.nil | apply VSubs.cons | exact VSub.one (VSub1.junk _) | exact VSub.one (VSub1.exv rfl rfl)))) (blks := .cons (.vec rfl (by simp) rfl (Nat.le_refl _) (fun h => nomatch h) fun _ _ => rfl) .nil), fin ⟨rfl, rfl⟩⟩
    | some b =>
      have hps : (nrT code p).isSome = true := by rw [hnr]; rfl
      have hds := (hA.some' hps).1 d rfl
      have hdn : d < code.length + 1 := ex_lt ((hT.sm d).1 hds)
      have hst := al_step hT hA hps
      have hm : abM pl (if d = code.length then none else nrT code d) < abM pl (some d) := by
        by_cases hx : d = code.length
        · rw [if_pos hx]; exact Nat.succ_pos _
        · rw [if_neg hx]
          cases e : nrT code d with
          | none => exact Nat.succ_pos _
          | some d' => have := (hpl d d' hx e).1; show pl d' + 1 < pl d + 1; omega
      by_cases hpx : p = code.length
      · refine prg_head (v' := .s (.bool false)) (by rw [if_pos hpx]; rfl) ?_
        refine g_run 4 ?_
        refine prg_head (v' := i64 (code.length : Nat)) (by unfold i64; congr 2; omega) ?_
        refine g_run 1 ?_
        refine prg_head (v' := .s (.bool true)) (by rw [hpx]; simp) ?_
        refine g_end ?_
        refine s_t (s_skip (s_block ?_))
        refine e_run ?_
        refine e_reg (g_run 3 ?_)
        rw [show (treeT code).getD d 0 = ofN (if d = code.length then none else nrT code d) from by
          rw [treeT_at hdn]; by_cases e : d = code.length <;> simp [e, ofN]]
        refine g_end ?_
        refine lp_next (if d = code.length then none else nrT code d, bs.set d true) hst (σ := [some 0]) (wk _ [] _ _ (vals := ?_) (blks := .cons (bs_vec rfl fun j hj => ?_) .nil)) hm
        · try dsimp only [lX]
          repeat' (first | exact VSubs.nil | apply VSubs.cons | exact VSub.one (VSub1.junk _) | exact VSub.nlv rfl | exact VSub.one (VSub1.exv rfl rfl))
        · exact row1_set (en := fun b => .s (.bool b)) (d := false) (xs := bs) (c := d) (x := true) _ rfl (by rw [hA.len]; exact hj)
      · refine prg_head (v' := .s (.bool true)) (by rw [if_neg hpx]; simp [ofN]) ?_
        refine g_end ?_
        refine s_t (s_skip (s_block ?_))
        refine e_run ?_
        refine e_reg (g_run 3 ?_)
        rw [show (treeT code).getD d 0 = ofN (if d = code.length then none else nrT code d) from by
          rw [treeT_at hdn]; by_cases e : d = code.length <;> simp [e, ofN]]
        refine g_end ?_
        refine lp_next (if d = code.length then none else nrT code d, bs.set d true) hst (σ := [some 0]) (wk _ [] _ _ (vals := ?_) (blks := .cons (bs_vec rfl fun j hj => ?_) .nil)) hm
        · try dsimp only [lX]
          repeat' (first | exact VSubs.nil | apply VSubs.cons | exact VSub.one (VSub1.junk _) | exact VSub.nlv rfl | exact VSub.one (VSub1.exv rfl rfl))
        · exact row1_set (en := fun b => .s (.bool b)) (d := false) (xs := bs) (c := d) (x := true) _ rfl (by rw [hA.len]; exact hj)
end Go.Proofs.Ytdbehmepikhghaa.Graph
