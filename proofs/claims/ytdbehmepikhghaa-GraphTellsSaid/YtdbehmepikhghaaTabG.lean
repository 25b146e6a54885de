/- The law GraphTells. -/
import Derived.Test.YtdbehmepikhghaaTabE
import Derived.Test.YtdbehmepikhghaaGraphQ
import Derived.Test.YtdbehmepikhghaaGraphL
set_option linter.unusedVariables false
set_option linter.unusedSimpArgs false
set_option maxRecDepth 10000
namespace Go.Proofs.Ytdbehmepikhghaa.Graph
open Go.Proofs.Ytdbehmepikhghaa.AM
theorem exitW_eq (code : List (Int × Int)) : exitW code = exitV code := by
  obtain ⟨x, ok, e, h1, h2⟩ := exit_tells code
  rw [e]
  unfold exitV
  cases hO : exitO code with
  | none =>
    have hall : ∀ j : Nat, j < code.length → (reachL code (j : Nat)).getD code.length false = true := fun j hj => by
      have := (List.find?_eq_none.1 hO) j (List.mem_range.2 hj)
      simpa using this
    obtain ⟨rfl, rfl⟩ := h2 hall
    rfl
  | some a =>
    have hO' := hO
    unfold exitO at hO'
    rw [List.find?_range_eq_some] at hO'
    obtain ⟨q1, q2, q3⟩ := hO'
    have ha := List.mem_range.1 q2
    obtain ⟨rfl, rfl⟩ := h1 a ha (fun j hj => by simpa using q3 j hj) (by simpa using q1)
    rfl
theorem tells_len (code : List (Int × Int)) (a : Int) : (nextI code a).length ≤ 2 ∧ (aheadI code a).length ≤ code.length := by
  refine ⟨?_, aheadN_len _ _ _⟩
  unfold nextI
  split
  · exact nextL_len _ _
  · exact Nat.zero_le _
noncomputable def vG (f : Fn) (odd : Int) (tv x7 : PV) : List PV := [encF f, i64 odd, .fptr 6 1 (fun _ => cellsF f) 0 0, .s (.bool false), i64 (f.code.length : Nat), .fptr 6 1 (fun _ => Kit.lentCells (toK f)) 0 0, tv, x7, .junk, .junk, .junk, .junk, .junk, .junk, .junk, .junk, .junk]
theorem graphTells_ok {f : Fn} (hps : f.ps.length < 17592186044415) (hrs : f.rs.length < 17592186044415) (hop : ∀ i, in64 (f.code.getD i (0, 0)).1) (harg : ∀ i, in64 (f.code.getD i (0, 0)).2) (odd : Int) (ho : in64 odd) : PFun E 4 [encF f, i64 odd] (valQ (isV (.s (.bool true)))) := by
  refine p_fun ?_
  show PTri E false [] _ [encF f, i64 odd, .junk, .junk, .junk, .junk, .junk, .junk, .junk, .junk, .junk, .junk, .junk, .junk, .junk, .junk, .junk] _ _
  refine s_run ?_
  refine p_weak [] [0] (wk [] [0] [encF f, i64 odd, .fptr 6 1 (fun _ => cellsF f) 0 0, .s (.bool false), .junk, .junk, .junk, .junk, .junk, .junk, .junk, .junk, .junk, .junk, .junk, .junk, .junk] [] (vals := ?_) (blks := .nil)) ?_
  · have hptr : VSub1 [] [0] [PB.cel (cellsF f)] (.ptr 0 0) (.fptr 6 1 (fun _ => cellsF f) 0 0) := .ptrf (by decide) rfl (by omega) rfl (by simp [cellsF]) rfl fun i hi => by
      have : i = 0 := by omega
      subst this; rfl
    repeat' (first | exact VSubs.nil | apply VSubs.cons | exact VSub.one (VSub1.junk _) | exact VSub.nlv rfl | exact VSub.one hptr)
  refine s_run ?_
  refine s_ass (s_run ?_)
  refine s_cond (fun h => ?_) (fun h => ?_)
  · refine s_ass (s_reg ?_)
    refine g_call awake_ok ?_
    rintro v rfl
    refine ⟨rfl, ?_⟩
    refine g_end ?_
    exact s_ret fin_v
  simp only [gt_iff_lt, decide_eq_false_iff_not] at h
  have hn : f.code.length ≤ 80 := by omega
  have hf : Fit f.code := ⟨by omega, hop, harg⟩
  refine s_skip ?_
  refine s_reg (g_run 1 ?_)
  refine g_call (lentFnK hps hrs hf.len) ?_
  rintro v rfl
  refine ⟨rfl, ?_⟩
  refine g_fbox (v := lentV f) 6 1 0 0 (fun _ => Kit.lentCells (toK f)) (by omega) rfl (by simp [lentV, Kit.lentF, pcs, Kit.lentCells]) (fun i hi => by
    have : i = 0 := by omega
    subst this; rfl) fun O1 => ?_
  refine g_fin ?_
  refine s_pure ?_
  refine s_ass (s_pure ?_)
  refine s_loopA (ι := Nat × PV) (fun i hp => i.1 ≤ f.code.length + 3 ∧ TabV hp i.2 (4 * i.1)) (fun i => f.code.length + 3 - i.1) (fun i => vG f odd i.2 (i64 ((i.1 : Int) - 1))) (0, .s (.slice none 0 0)) ⟨Nat.zero_le _, .inl ⟨rfl, rfl⟩⟩ (by unfold vG; repeat' (first | exact TSub.nil | apply TSub.same | apply TSub.junk)) ?_
  rintro ⟨k, tv⟩ hp ⟨hk, hT⟩
  dsimp only at hk hT
  dsimp only
  unfold vG
  refine s_ass (s_pure ?_)
  refine s_cond (fun h1 => ?_) (fun h1 => ?_)
  · simp only [decide_eq_true_eq] at h1
    have ha64 : in64 ((k : Int) - 1) := ⟨by omega, by omega⟩
    obtain ⟨a, haE⟩ : ∃ a : Int, (k : Int) - 1 = a := ⟨_, rfl⟩
    rw [haE] at ha64 ⊢
    obtain ⟨hl1, hl2⟩ := tells_len f.code a
    refine s_skip (s_block ?_)
    refine s_reg (g_pureD 1 fun O2 => ?_)
    refine prg_castO lent_enc ?_
    refine prg_own (nextO_ok hf a) (.cons (.nlv rfl) (.cons (.nlv rfl) .nil)) fun vx ap1 md1 cnt1 hx => ?_
    refine g_fin ?_
    refine s_reg (g_pureD 1 fun O3 => ?_)
    refine prg_castO lent_enc ?_
    refine prg_own (aheadO_ok hf a) (.cons (.nlv rfl) (.cons (.nlv rfl) .nil)) fun vy ap2 md2 cnt2 hy => ?_
    refine g_fin ?_
    have hx2 := hx.app ap2
    refine s_ass (s_drw (g_pureD 1 fun O4 => ?_))
    refine g_call (rnext_ok hf a) ?_
    rintro v rfl
    refine ⟨rfl, ?_⟩
    refine prg_intsO (v := vx) (xs := nextI f.code a) rfl rfl hx2 (by omega) fun md3 cnt3 => ?_
    refine g_pureD 3 fun O5 => ?_
    refine g_call (rahead_ok hf a ha64) ?_
    rintro v rfl
    refine ⟨rfl, ?_⟩
    refine g_pureD 1 fun O6 => ?_
    refine prg_intsO (v := vy) (xs := aheadI f.code a) rfl rfl hy (by omega) fun md4 cnt4 => ?_
    refine g_pureD 3 fun O7 => ?_
    refine prg_castO lent_enc ?_
    refine g_pureD 1 fun O8 => ?_
    refine g_call (reach_ok hf a) ?_
    rintro v rfl
    refine ⟨rfl, ?_⟩
    refine g_pureD 2 fun O9 => ?_
    refine g_call (rreach_ok hf a ha64) ?_
    rintro v rfl
    refine ⟨rfl, ?_⟩
    refine g_call (bools_ok (reachL f.code a) (reachL f.code a) (by rw [reachL_len]; omega)) ?_
    rintro v rfl
    rw [decide_eq_true rfl]
    refine ⟨rfl, ?_⟩
    refine g_pureD 2 fun O10 => ?_
    refine g_fin ?_
    refine s_f (s_skip ?_)
    refine e_drw (g_pureD 1 fun O11 => ?_)
    refine prg_castO lent_enc ?_
    refine prg_own (nextO_ok hf a) (.cons (.nlv rfl) (.cons (.nlv rfl) .nil)) fun vz ap3 md5 cnt5 hz => ?_
    refine g_pureD 1 fun O12 => ?_
    refine prg_castO lent_enc ?_
    refine prg_own (aheadO_ok hf a) (.cons (.nlv rfl) (.cons (.nlv rfl) .nil)) fun vw ap4 md6 cnt6 hw => ?_
    have hx4 := (hx2.app ap3).app ap4
    have hy4 := (hy.app ap3).app ap4
    have hz4 := hz.app ap4
    have hN : News (hp ++ ap1 ++ ap2 ++ ap3 ++ ap4) hp.length (hp ++ ap1 ++ ap2 ++ ap3 ++ ap4).length [vx, vy, vz, vw] [_, _, _, _] :=
      .cons hx4 (by omega) (fun _ _ => rfl) (by simp) (.cons hy4 (by omega) (fun _ _ => rfl) (by simp) (.cons hz4 (by omega) (fun _ _ => rfl) (by simp) (.cons hw (by omega) (fun _ _ => rfl) (by simp) .nil)))
    refine tab_mkcel (l := [(0, 1, vx), (1, 1, vy), (2, 1, vz), (3, 1, vw)]) (c := [vx, vy, vz, vw]) rfl (pfill4 ⟨hx.cell.1, hx.cell.2.1⟩ ⟨hy.cell.1, hy.cell.2.1⟩ ⟨hz.cell.1, hz.cell.2.1⟩ ⟨hw.cell.1, hw.cell.2.1⟩) hN.okc ?_
    refine hT.push (k := 4) (vs := [vx, vy, vz, vw]) ⟨ap1 ++ ap2 ++ ap3 ++ ap4, by simp only [List.append_assoc]⟩ hN rfl (by omega) (by simp only [room]; omega) rfl rfl fun tv' hp' md' cnt' hT' => ?_
    refine g_fin ?_
    refine e_pure ?_
    exact ⟨(k + 1, tv'), ⟨by dsimp only; omega, hT'⟩, by dsimp only; omega, by
      have : (((k + 1 : Nat) : Int) - 1) = a + 1 := by omega
      dsimp only
      rw [this]
      repeat' (first | exact TSub.nil | apply TSub.same | apply TSub.junk)⟩
  simp only [decide_eq_false_iff_not] at h1
  have hk3 : k = f.code.length + 3 := by omega
  rcases hT with ⟨h0, _⟩ | ⟨h0, bk, len, rfl, hI⟩
  · omega
  refine s_exit ?_
  obtain ⟨x, ok, e, _, _⟩ := exit_tells f.code
  refine s_reg (g_pureD 1 fun O2 => ?_)
  refine prg_castO lent_enc ?_
  refine g_call (exit_ok hf) ?_
  rintro v rfl
  rw [e]
  refine ⟨rfl, ?_⟩
  refine g_pureD 2 fun O3 => ?_
  refine g_fin ?_
  refine s_reg (g_pureD 1 fun O4 => ?_)
  refine g_call (rexit_ok hf) ?_
  rintro v rfl
  rw [← exitW_eq, e]
  refine ⟨rfl, ?_⟩
  refine g_pureD 2 fun O5 => ?_
  refine g_fin ?_
  obtain ⟨hl1, hl2⟩ := tells_len f.code odd
  refine s_drw (g_pureD 1 fun O6 => ?_)
  refine prg_head (v' := .s (.bool true)) (by congr 2; exact beq_self_eq_true _) ?_
  refine g_pureD 3 fun O7 => ?_
  refine prg_head (v' := .s (.bool true)) (by cases ok <;> rfl) ?_
  refine g_pureD 2 fun O8 => ?_
  refine prg_castO lent_enc ?_
  refine g_pureD 1 fun O9 => ?_
  refine prg_own (nextO_ok hf odd) (.cons (.nlv rfl) (.cons (.nlv rfl) .nil)) fun vx ap1 md1 cnt1 hx => ?_
  refine g_pureD 2 fun O10 => ?_
  refine g_call (rnext_ok hf odd) ?_
  rintro v rfl
  refine ⟨rfl, ?_⟩
  refine prg_intsO (v := vx) (xs := nextI f.code odd) rfl rfl hx (by omega) fun md2 cnt2 => ?_
  refine g_pureD 2 fun O11 => ?_
  refine prg_castO lent_enc ?_
  refine g_pureD 1 fun O12 => ?_
  refine prg_own (aheadO_ok hf odd) (.cons (.nlv rfl) (.cons (.nlv rfl) .nil)) fun vy ap2 md3 cnt3 hy => ?_
  refine g_pureD 2 fun O13 => ?_
  refine g_call (rahead_ok hf odd ho) ?_
  rintro v rfl
  refine ⟨rfl, ?_⟩
  refine prg_intsO (v := vy) (xs := aheadI f.code odd) rfl rfl hy (by omega) fun md4 cnt4 => ?_
  refine g_pureD 3 fun O14 => ?_
  refine g_call (keptFnK hps hrs hf.len) ?_
  rintro v rfl
  refine ⟨rfl, ?_⟩
  refine g_pureD 2 fun O15 => ?_
  refine prg_castO tbv_vec ?_
  have hT2 := (TabV.app (.inr ⟨h0, bk, len, rfl, hI⟩) ap1).app ap2
  rcases hT2 with ⟨h0', _⟩ | ⟨_, bk', len', he, hI'⟩
  · omega
  cases he
  refine prg_give (apart_ok (by omega) hI') ?_
  rintro v hp' md5 cnt5 rfl
  refine ⟨rfl, ?_⟩
  refine g_pureD 3 fun O16 => ?_
  refine g_call (keptFnK hps hrs hf.len) ?_
  rintro v rfl
  refine ⟨rfl, ?_⟩
  refine g_pureD 1 fun O17 => ?_
  refine g_call awake_ok ?_
  rintro v rfl
  refine ⟨rfl, ?_⟩
  refine g_pureD 1 fun O18 => ?_
  refine g_fin ?_
  exact p_ret fin_v
end Go.Proofs.Ytdbehmepikhghaa.Graph
