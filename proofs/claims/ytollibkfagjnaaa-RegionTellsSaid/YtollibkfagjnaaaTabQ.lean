/- The law RegionTells. -/
import Derived.Test.YtollibkfagjnaaaTabP
import Derived.Test.YtollibkfagjnaaaTabE
set_option linter.unusedVariables false
set_option linter.unusedSimpArgs false
set_option maxRecDepth 10000
namespace Go.Proofs.Ytollibkfagjnaaa.Graph
open Go.Proofs.Ytollibkfagjnaaa.AM Go.Proofs.Ytollibkfagjnaaa.Post
theorem awakeT_ok : PFun E 34 [] (valQ (isV (.s (.bool true)))) := by
  intro F ρ H avs hr ha
  have : avs = [] := List.eq_nil_of_length_eq_zero (by rw [← ha.len]; rfl)
  subst this
  exact runs_done (fun _ => rfl) ⟨F, ρ, [], .s (.bool true), .refl, fun _ _ _ h => h, hr, .fr (.s _), rfl, rfl⟩
theorem and_low (n : Int) : 0 ≤ abits .and .i64 n 1023 ∧ abits .and .i64 n 1023 ≤ 1023 := by
  have e : abits .and .i64 n 1023 = aw .i64 ((BitVec.ofInt IntKind.i64.bits n &&& BitVec.ofInt IntKind.i64.bits 1023).toNat : Int) := rfl
  have h : (BitVec.ofInt IntKind.i64.bits n &&& BitVec.ofInt IntKind.i64.bits 1023).toNat ≤ 1023 := by
    rw [BitVec.toNat_and]
    exact Nat.le_trans Nat.and_le_right (by decide)
  rw [e]
  generalize (BitVec.ofInt IntKind.i64.bits n &&& BitVec.ofInt IntKind.i64.bits 1023).toNat = m at h
  simp only [aw]
  omega
noncomputable def vQ (f : Fn) (odd : Int) (tv x7 : PV) : List PV := [encF f, i64 odd, .fptr 6 1 (fun _ => cellsF f) 0 0, .s (.bool false), i64 (f.code.length : Nat), .fptr 6 1 (fun _ => Kit.lentCells (toK f)) 0 0, tv, x7, .junk, .junk, .junk, .junk, .junk]
theorem regionTells_ok {f : Fn} (hps : f.ps.length < 17592186044415) (hrs : f.rs.length < 17592186044415) (hop : ∀ i, in64 (f.code.getD i (0, 0)).1) (harg : ∀ i, in64 (f.code.getD i (0, 0)).2) (odd : Int) (ho : in64 odd) : PFun E 9 [encF f, i64 odd] (valQ (isV (.s (.bool true)))) := by
  refine p_fun ?_
  show PTri E false [] _ [encF f, i64 odd, .junk, .junk, .junk, .junk, .junk, .junk, .junk, .junk, .junk, .junk, .junk] _ _
  refine s_run ?_
  refine p_weak [] [0] (wk [] [0] [encF f, i64 odd, .fptr 6 1 (fun _ => cellsF f) 0 0, .s (.bool false), .junk, .junk, .junk, .junk, .junk, .junk, .junk, .junk, .junk] [] (vals := ?_) (blks := .nil)) ?_
  · have hptr : VSub1 [] [0] [PB.cel (cellsF f)] (.ptr 0 0) (.fptr 6 1 (fun _ => cellsF f) 0 0) := .ptrf (by decide) rfl (by omega) rfl (by simp [cellsF]) rfl fun i hi => by
      have : i = 0 := by omega
      subst this; rfl
    repeat' (first | exact VSubs.nil | apply VSubs.cons | exact VSub.one (VSub1.junk _) | exact VSub.nlv rfl | exact VSub.one hptr)
  refine s_run ?_
  refine s_ass (s_run ?_)
  refine s_cond (fun h => ?_) (fun h => ?_)
  · refine s_ass (s_reg ?_)
    refine g_call awakeT_ok ?_
    rintro v rfl
    refine ⟨rfl, ?_⟩
    refine g_end ?_
    exact s_ret fin_v
  simp only [gt_iff_lt, decide_eq_false_iff_not] at h
  have hn : f.code.length ≤ 25 := by omega
  have hf : Fit f.code := ⟨by omega, hop, harg⟩
  refine s_skip ?_
  refine s_reg (g_run 1 ?_)
  refine g_call (lentFnK hps hrs hf.len) ?_
  rintro v rfl
  refine ⟨rfl, ?_⟩
  refine g_fbox (v := lentV f) 6 1 0 0 (fun _ => Kit.lentCells (toK f)) (by omega) rfl (by simp [lentV, Kit.lentF, pcs, Kit.lentCells]) (fun i hi => by
    have : i = 0 := by omega
    subst this; rfl) fun O1 => ?_
  refine g_fin ?_
  refine s_pure ?_
  refine s_ass (s_pure ?_)
  refine s_loopA (ι := Nat × PV) (fun i hp => i.1 ≤ f.code.length + 3 ∧ TabV hp i.2 (3 * i.1)) (fun i => f.code.length + 3 - i.1) (fun i => vQ f odd i.2 (i64 ((i.1 : Int) - 1))) (0, .s (.slice none 0 0)) ⟨Nat.zero_le _, .inl ⟨rfl, rfl⟩⟩ (by unfold vQ; repeat' (first | exact TSub.nil | apply TSub.same | apply TSub.junk)) ?_
  rintro ⟨k, tv⟩ hp ⟨hk, hT⟩
  dsimp only at hk hT
  dsimp only
  unfold vQ
  refine s_ass (s_pure ?_)
  refine s_cond (fun h1 => ?_) (fun h1 => ?_)
  · simp only [decide_eq_true_eq] at h1
    obtain ⟨a, haE⟩ : ∃ a : Int, (k : Int) - 1 = a := ⟨_, rfl⟩
    rw [haE]
    have hl1 : (natI (ofI f.code a)).length ≤ f.code.length := by rw [natI_len]; exact ofI_len
    have hl2 : (natI (govI f.code a f.code.length)).length ≤ f.code.length := by rw [natI_len]; exact govI_len
    refine s_skip (s_block ?_)
    refine s_reg (g_pureD 1 fun O2 => ?_)
    refine prg_castO lent_enc ?_
    refine prg_ownP (ofO_ok hf (by omega) (b := a) (by omega)) (.cons (.nlv rfl) (.cons (.nlv rfl) .nil)) fun vx ap1 md1 cnt1 hTr hx => ?_
    refine g_fin ?_
    refine s_reg (g_pureD 1 fun O3 => ?_)
    refine prg_castO lent_enc ?_
    refine prg_ownP (governsO_ok hf a) (.cons (.nlv rfl) (.cons (.nlv rfl) .nil)) fun vy ap2 md2 cnt2 _ hy => ?_
    refine g_fin ?_
    have hx2 := hx.app ap2
    refine s_ass (s_reg (g_pureD 1 fun O4 => ?_))
    refine g_call (rofI_ok hf hTr a) ?_
    rintro v rfl
    refine ⟨rfl, ?_⟩
    refine prg_intsO (v := vx) (xs := natI (ofI f.code a)) rfl rfl hx2 (by omega) fun md3 cnt3 => ?_
    refine g_pureD 4 fun O5 => ?_
    refine g_call (rgov_ok hf hTr a) ?_
    rintro v rfl
    refine ⟨rfl, ?_⟩
    refine prg_intsO (v := vy) (xs := natI (govI f.code a f.code.length)) rfl rfl hy (by omega) fun md4 cnt4 => ?_
    refine g_pureD 2 fun O7 => ?_
    refine g_fin ?_
    refine s_f (s_skip ?_)
    refine e_reg (g_pureD 1 fun O11 => ?_)
    refine prg_castO lent_enc ?_
    refine prg_ownP (ofO_ok hf (by omega) (b := a) (by omega)) (.cons (.nlv rfl) (.cons (.nlv rfl) .nil)) fun vz ap3 md5 cnt5 _ hz => ?_
    have hx4 := hx2.app ap3
    have hy4 := hy.app ap3
    have hN : News (hp ++ ap1 ++ ap2 ++ ap3) hp.length (hp ++ ap1 ++ ap2 ++ ap3).length [vx, vy, vz] [_, _, _] :=
      .cons hx4 (by omega) (fun _ _ => rfl) (by simp) (.cons hy4 (by omega) (fun _ _ => rfl) (by simp) (.cons hz (by omega) (fun _ _ => rfl) (by simp) .nil))
    refine tab_mkcel (l := [(0, 1, vx), (1, 1, vy), (2, 1, vz)]) (c := [vx, vy, vz]) rfl (pfill3 ⟨hx.cell.1, hx.cell.2.1⟩ ⟨hy.cell.1, hy.cell.2.1⟩ ⟨hz.cell.1, hz.cell.2.1⟩) hN.okc ?_
    refine hT.push (k := 3) (vs := [vx, vy, vz]) ⟨ap1 ++ ap2 ++ ap3, by simp only [List.append_assoc]⟩ hN rfl (by omega) (by simp only [room]; omega) rfl rfl fun tv' hp' md' cnt' hT' => ?_
    refine g_fin ?_
    refine e_pure ?_
    exact ⟨(k + 1, tv'), ⟨by dsimp only; omega, hT'⟩, by dsimp only; omega, by
      have : (((k + 1 : Nat) : Int) - 1) = a + 1 := by omega
      dsimp only
      rw [this]
      repeat' (first | exact TSub.nil | apply TSub.same | apply TSub.junk)⟩
  simp only [decide_eq_false_iff_not] at h1
  rcases hT with ⟨h0, _⟩ | ⟨h0, bk, len, rfl, hI⟩
  · omega
  refine s_exit ?_
  refine s_reg (g_pureD 1 fun O2 => ?_)
  refine prg_castO lent_enc ?_
  refine g_pureD 2 fun O3 => ?_
  obtain ⟨z, hz⟩ : ∃ z, abits .and .i64 odd 1023 = z := ⟨_, rfl⟩
  have hz2 := and_low odd
  rw [hz] at hz2
  refine prg_head (v' := i64 z) (by rw [← hz]; rfl) ?_
  refine g_pureD 1 fun O4 => ?_
  refine prg_ownP (ofO_ok hf (by omega) (b := (f.code.length : Int) + 2 + z) (by omega)) (.cons (.nlv rfl) (.cons (.nlv rfl) .nil)) fun vx ap1 md1 cnt1 hTr hx => ?_
  have hout : ofI f.code ((f.code.length : Int) + 2 + z) = [] := ofI_out (by omega)
  rw [hout] at hx
  obtain ⟨bx, fx, rfl, hx⟩ := hx
  refine g_pureD 4 fun O5 => ?_
  refine g_call (keptFnK hps hrs hf.len) ?_
  rintro v rfl
  refine ⟨rfl, ?_⟩
  refine g_pureD 2 fun O6 => ?_
  refine prg_castO tbv_vec ?_
  have hT2 := TabV.app (.inr ⟨h0, bk, len, rfl, hI⟩) ap1
  rcases hT2 with ⟨h0', _⟩ | ⟨_, bk', len', he, hI'⟩
  · omega
  cases he
  refine prg_give (apart_ok (by omega) hI') ?_
  rintro v hp' md5 cnt5 rfl
  refine ⟨rfl, ?_⟩
  refine g_pureD 3 fun O16 => ?_
  refine g_call (keptFnK hps hrs hf.len) ?_
  rintro v rfl
  refine ⟨rfl, ?_⟩
  refine g_pureD 1 fun O17 => ?_
  refine g_call awakeT_ok ?_
  rintro v rfl
  refine ⟨rfl, ?_⟩
  refine g_pureD 1 fun O18 => ?_
  refine g_fin ?_
  exact p_ret fin_v
end Go.Proofs.Ytollibkfagjnaaa.Graph
