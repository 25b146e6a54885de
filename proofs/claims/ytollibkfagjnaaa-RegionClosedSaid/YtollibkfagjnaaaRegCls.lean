/- The law RegionClosed. -/
import Derived.Test.YtollibkfagjnaaaRegClo
import Derived.Test.YtollibkfagjnaaaRegOpen
import Derived.Test.YtollibkfagjnaaaPostAl
set_option linter.unusedVariables false
set_option linter.unusedSimpArgs false
set_option maxRecDepth 10000
namespace Go.Proofs.Ytollibkfagjnaaa.Graph
open Go.Proofs.Ytollibkfagjnaaa.AM Go.Proofs.Ytollibkfagjnaaa.Post
theorem awakeC_ok : PFun E 34 [] (valQ (isV (.s (.bool true)))) := by
  intro F ρ H avs hr ha
  have : avs = [] := List.eq_nil_of_length_eq_zero (by rw [← ha.len]; rfl)
  subst this
  exact runs_done (fun _ => rfl) ⟨F, ρ, [], .s (.bool true), .refl, fun _ _ _ h => h, hr, .fr (.s _), rfl, rfl⟩
theorem exit_all (code : List (Int × Int)) : ∃ (x : Int) (ok : Bool), exitW code = .tup [i64 x, .s (.bool ok)] ∧ (ok = false → ∀ a : Nat, a < code.length → (reachL code (a : Nat)).getD code.length false = true) := by
  obtain ⟨x, ok, h1, h2, h3⟩ := exit_tells code
  refine ⟨x, ok, h1, fun h a => ?_⟩
  induction a using Nat.strongRecOn with
  | ind a ih =>
    intro ha
    cases hr : (reachL code (a : Nat)).getD code.length false with
    | true => rfl
    | false =>
      have := (h2 a ha (fun j hj => ih j hj (by omega)) hr).1
      rw [h] at this; cases this
theorem natS_at {S : List Nat} {k s : Nat} (h : S[k]? = some s) : PV.s (.int .i64 ((natI S).getD k 0)) = i64 (s : Nat) := by
  show _ = PV.s (.int .i64 _)
  congr 2
  show (S.map Int.ofNat).getD k 0 = _
  rw [List.getD_eq_getElem?_getD, List.getElem?_map, h]
  rfl
theorem has16N (R : List Nat) (x : Int) (hx : R.length < 1000000000) : PFun E 50 [.frz 1 R.length R.length (rowI .i64 (natI R)), i64 x] (valQ (isV (.s (.bool (decide (x ∈ natI R)))))) := by
  have := has16_ok (natI R) x (by rw [natI_len]; exact hx)
  unfold encI at this
  rwa [natI_len] at this
noncomputable def cV (f : Fn) (lk : Bool) (b : Nat) (x6 x7 x8 x9 x10 x11 x12 x13 x14 x15 : PV) : List PV := [encF f, .ptr 0 0, .s (.bool false), i64 (f.code.length : Nat), .s (.bool lk), i64 (b : Nat), x6, x7, x8, x9, x10, x11, x12, x13, x14, x15, .junk, .junk, .junk, .junk, .junk, .junk, .junk, .junk, .junk, .junk, .junk, .junk, .junk, .junk]
theorem regionClosed_ok {f : Fn} (fit : FnFits f) : PFun E 12 [encF f] (valQ (isV (.s (.bool true)))) := by
  refine p_fun ?_
  show PTri E false [] _ [encF f, .junk, .junk, .junk, .junk, .junk, .junk, .junk, .junk, .junk, .junk, .junk, .junk, .junk, .junk, .junk, .junk, .junk, .junk, .junk, .junk, .junk, .junk, .junk, .junk, .junk, .junk, .junk, .junk, .junk] _ _
  refine s_run ?_
  refine s_run ?_
  refine s_ass (s_reg (g_run 1 ?_))
  refine prg_split (fun h => ?_) (fun h => ?_)
  · refine g_end ?_
    refine s_t (s_ass (s_reg ?_))
    refine g_call awakeC_ok ?_
    rintro v rfl
    refine ⟨rfl, ?_⟩
    refine g_end ?_
    exact s_ret fin_v
  simp only [gt_iff_lt, decide_eq_false_iff_not] at h
  have hn : f.code.length ≤ 40 := by omega
  have hf : Fit f.code := ⟨by omega, fit.op, fit.arg⟩
  have f1 := hf.len
  refine g_call awakeC_ok ?_
  rintro v rfl
  refine ⟨rfl, ?_⟩
  refine g_end ?_
  refine s_f (s_skip ?_)
  refine s_reg (g_run 1 ?_)
  refine g_call (exit_ok hf) ?_
  rintro v rfl
  obtain ⟨x, lk, hx, hlk⟩ := exit_all f.code
  rw [hx]
  refine ⟨rfl, ?_⟩
  refine g_end ?_
  refine s_ass (s_run ?_)
  refine s_loop (ι := Nat) (fun b => b ≤ f.code.length) (fun b => f.code.length - b) (fun b => cV f lk b (.junk) (.junk) (.junk) (.junk) (.junk) (.junk) (.junk) (.junk) (.junk) (.junk)) (fun _ => [.cel (cellsF f)]) 0 (Nat.zero_le _) (σ := [some 0]) (fz := []) (wk _ [] _ _ (vals := (by (try dsimp only [cV]); (repeat' (first | exact VSubs.nil | apply VSubs.cons | exact VSub.one (VSub1.junk _) | exact VSub.nlv rfl | exact VSub.one (VSub1.ptr rfl))))) (blks := .cons bs_cel .nil)) ?_
  intro b hb
  unfold cV
  refine s_ass (s_run ?_)
  refine s_cond (fun h1 => ?_) (fun h1 => ?_)
  · simp only [decide_eq_true_eq] at h1
    have hb1 : b < f.code.length := by omega
    refine s_skip (s_block ?_)
    refine s_reg (g_run 1 ?_)
    refine g_call (of_ok hf (by omega) (b := b) (by omega)) ?_
    rintro v ⟨hT, rfl⟩
    refine ⟨rfl, ?_⟩
    have hol : (ofL f.code b).length ≤ f.code.length := by
      unfold ofL
      exact Nat.le_trans (List.length_filter_le _ _) (by simp)
    unfold encI
    rw [natI_len]
    refine g_end ?_
    refine s_reg (g_run 1 ?_)
    refine g_call (near_ok hf (p := b) (by omega)) ?_
    rintro v ⟨_, rfl⟩
    unfold nearW
    rw [if_neg (show ¬ b = f.code.length by omega)]
    cases hnr : nrT f.code b with
    | none =>
      refine ⟨rfl, ?_⟩
      refine g_end ?_
      refine s_reg (g_run 1 ?_)
      refine g_call (next_ok hf (b : Nat)) ?_
      rintro v rfl
      refine ⟨rfl, ?_⟩
      refine g_end ?_
      refine s_ass (s_run ?_)
      refine s_t ?_
      rw [of_none hnr]
      refine s_ass (s_ass (s_run ?_))
      refine s_f (s_skip ?_)
      refine s_exit ?_
      refine e_run ?_
      refine lp_next (b + 1) (by omega) (σ := [some 0]) (fz := []) (wk _ [] _ _ (vals := (by (try dsimp only [cV]); (repeat' (first | exact VSubs.nil | apply VSubs.cons | exact VSub.one (VSub1.junk _) | exact VSub.nlv rfl | exact VSub.one (VSub1.ptr rfl))))) (blks := .cons bs_cel .nil))
    | some e =>
    refine ⟨rfl, ?_⟩
    refine g_end ?_
    have hB : Br f.code b e := ⟨hT, hb1, hnr⟩
    have hex : e < f.code.length + 1 := ex_lt hB.ne.2.1
    refine s_reg (g_run 1 ?_)
    refine g_call (next_ok hf (b : Nat)) ?_
    rintro v rfl
    refine ⟨rfl, ?_⟩
    rw [← next_nat]
    unfold encI
    rw [natI_len]
    refine g_end ?_
    have hnl : ∀ c, (nxN f.code c).length ≤ 2 := fun c => by rw [← natI_len, next_nat]; exact nextI_len _ _
    have k1 := hB.not_near
    have k2 := not_end (code := f.code) (b := b)
    have k3 := hB.one
    have k4 : ∀ c, c ∈ nxN f.code b → c ≠ e → c ∈ ofL f.code b := fun c => hB.next
    have k5 : ∀ a c, a ∈ ofL f.code b → c ∈ nxN f.code a → c ≠ e → c ∈ ofL f.code b := fun a c => hB.next2
    have k6 : ∀ a, a ∈ ofL f.code b → a < f.code.length ∧ b ∈ govL f.code a f.code.length := fun a h => ⟨(of_mem.1 h).1, gov_mem.2 ⟨hb1, (of_mem.1 h).2⟩⟩
    have k7 : ∀ i x y, 0 < i → (ofL f.code b)[i]? = some x → (ofL f.code b)[i - 1]? = some y → y < x := fun i x y => of_less
    have k8 : lk = false → ∀ a, a ∈ ofL f.code b → pdB f.code e a = true ∧ ∃ q, nrT f.code a = some q ∧ (q ≠ e → q ∈ ofL f.code b) := fun hl a ha => by
      have hxa := all_ex (hlk hl) (of_mem.1 ha).1
      obtain ⟨q, hq⟩ := Option.isSome_iff_exists.1 ((hT.sm a).2 hxa)
      exact ⟨hB.pd ha hxa, q, hq, hB.near ha hxa hq⟩
    obtain ⟨R, hR⟩ : ∃ R, ofL f.code b = R := ⟨_, rfl⟩
    rw [hR] at hol k1 k2 k3 k4 k5 k6 k7 k8 ⊢
    refine s_ass (s_run ?_)
    refine s_f (s_skip ?_)
    refine s_ass (s_run ?_)
    refine s_cond (fun h2 => ?_) (fun h2 => ?_)
    · subst h2
      refine s_ass (s_ass (s_reg ?_))
      refine g_call (has16N R _ (by omega)) ?_
      rintro v rfl
      refine ⟨rfl, ?_⟩
      refine prg_head (v' := .s (.bool false)) (by rw [mem_nat, decide_eq_false k1]) ?_
      refine g_run 2 ?_
      refine g_call (has16N R _ (by omega)) ?_
      rintro v rfl
      refine ⟨rfl, ?_⟩
      refine prg_head (v' := .s (.bool false)) (by rw [mem_nat, decide_eq_false k2]) ?_
      refine g_end ?_
      refine s_f (s_skip ?_)
      refine s_exit ?_
      refine e_run ?_
      refine lp_next (b + 1) (by omega) (σ := [some 0]) (fz := []) (wk _ [] _ _ (vals := (by (try dsimp only [cV]); (repeat' (first | exact VSubs.nil | apply VSubs.cons | exact VSub.one (VSub1.junk _) | exact VSub.nlv rfl | exact VSub.one (VSub1.ptr rfl))))) (blks := .cons bs_cel .nil))
    subst h2
    have k8 := k8 rfl
    refine s_skip ?_
    refine s_ass ?_
    refine s_cut (fun T' hp' => ∃ (x17 : PV) (x18 : PV) (x20 : PV), T' = [encF f, .ptr 0 0, .s (.bool false), i64 (f.code.length : Nat), .s (.bool false), i64 (b : Nat), .frz 1 R.length R.length (rowI .i64 (natI R)), i64 (e : Nat), .s (.bool true), .frz 1 (nxN f.code b).length (nxN f.code b).length (rowI .i64 (natI (nxN f.code b))), .junk, .junk, .junk, .junk, .junk, .junk, .junk, x17, x18, .junk, x20, .junk, .s (.bool false), .junk, .junk, .junk, .junk, .junk, .junk, .junk] ∧ hp' = [.cel (cellsF f)]) ?_ ?_
    · refine e_reg (g_run 2 ?_)
      refine prg_split (fun h2 => ?_) (fun h2 => ?_)
      · have hl1 : (nxN f.code b).length = 1 := by
          have : ((nxN f.code b).length : Int) = 1 := by simpa using h2
          omega
        have hRe := k3 hl1
        refine g_run 3 ?_
        refine prg_head (v' := .s (.bool false)) (by rw [hRe]; rfl) ?_
        refine g_run 3 ?_
        refine g_call (has16N R _ (by omega)) ?_
        rintro v rfl
        refine ⟨rfl, ?_⟩
        refine prg_head (v' := .s (.bool false)) (by rw [mem_nat, decide_eq_false k1]) ?_
        refine g_run 3 ?_
        refine g_call (has16N R _ (by omega)) ?_
        rintro v rfl
        refine ⟨rfl, ?_⟩
        refine prg_head (v' := .s (.bool false)) (by rw [mem_nat, decide_eq_false k2]) ?_
        refine g_end ?_
        exact ⟨rfl, _, _, _, rfl, rfl⟩
      · refine g_run 6 ?_
        refine g_call (has16N R _ (by omega)) ?_
        rintro v rfl
        refine ⟨rfl, ?_⟩
        refine prg_head (v' := .s (.bool false)) (by rw [mem_nat, decide_eq_false k1]) ?_
        refine g_run 3 ?_
        refine g_call (has16N R _ (by omega)) ?_
        rintro v rfl
        refine ⟨rfl, ?_⟩
        refine prg_head (v' := .s (.bool false)) (by rw [mem_nat, decide_eq_false k2]) ?_
        refine g_end ?_
        exact ⟨rfl, _, _, _, rfl, rfl⟩
    rintro T' hp' ⟨x17, x18, x20, rfl, rfl⟩
    refine s_f (s_skip ?_)
    refine s_ass (s_run ?_)
    refine s_loop (ι := Nat) (fun i => i ≤ (nxN f.code b).length) (fun i => (nxN f.code b).length - i) (fun i => cV f false b (.frz 1 R.length R.length (rowI .i64 (natI R))) (i64 (e : Nat)) (.s (.bool true)) (.frz 1 (nxN f.code b).length (nxN f.code b).length (rowI .i64 (natI (nxN f.code b)))) (i64 (i : Nat)) (.junk) (.junk) (.junk) (.junk) (.junk)) (fun _ => [.cel (cellsF f)]) 0 (Nat.zero_le _) (σ := [some 0]) (fz := []) (wk _ [] _ _ (vals := (by (try dsimp only [cV]); (repeat' (first | exact VSubs.nil | apply VSubs.cons | exact VSub.one (VSub1.junk _) | exact VSub.nlv rfl | exact VSub.one (VSub1.ptr rfl))))) (blks := .cons bs_cel .nil)) ?_
    · intro i hi
      have hnlb := hnl b
      unfold cV
      refine s_ass (s_run ?_)
      refine s_cond (fun h2 => ?_) (fun h2 => ?_)
      · simp only [decide_eq_true_eq] at h2
        obtain ⟨c, hc⟩ : ∃ c, (nxN f.code b)[i]? = some c := ⟨_, List.getElem?_eq_getElem (by omega)⟩
        have hcm := List.mem_of_getElem? hc
        refine s_skip (s_block ?_)
        refine s_cut (fun T' hp' => ∃ (x23 : PV), T' = [encF f, .ptr 0 0, .s (.bool false), i64 (f.code.length : Nat), .s (.bool false), i64 (b : Nat), .frz 1 R.length R.length (rowI .i64 (natI R)), i64 (e : Nat), .s (.bool true), .frz 1 (nxN f.code b).length (nxN f.code b).length (rowI .i64 (natI (nxN f.code b))), i64 (i : Nat), .junk, .junk, .junk, .junk, .junk, .junk, .junk, .junk, .junk, .junk, .junk, .junk, x23, .s (.bool false), .junk, .junk, .junk, .junk, .junk] ∧ hp' = [.cel (cellsF f)]) ?_ ?_
        · refine e_reg (g_run 2 ?_)
          refine prg_head (natS_at hc) ?_
          refine g_run 1 ?_
          refine prg_split (fun h3 => ?_) (fun h3 => ?_)
          · have hce : c ≠ e := fun w => by subst w; simp at h3
            refine g_run 5 ?_
            refine prg_head (natS_at hc) ?_
            refine g_call (has16N R _ (by omega)) ?_
            rintro v rfl
            refine ⟨rfl, ?_⟩
            refine prg_head (v' := .s (.bool true)) (by rw [mem_nat, decide_eq_true (k4 c hcm hce)]) ?_
            refine g_end ?_
            exact ⟨rfl, _, rfl, rfl⟩
          · refine g_end ?_
            exact ⟨rfl, _, rfl, rfl⟩
        rintro T' hp' ⟨x23, rfl, rfl⟩
        refine e_f ?_
        refine p_skip ?_
        refine e_run ?_
        refine lp_next (i + 1) (by omega) (σ := [some 0]) (fz := []) (wk _ [] _ _ (vals := (by (try dsimp only [cV]); (repeat' (first | exact VSubs.nil | apply VSubs.cons | exact VSub.one (VSub1.junk _) | exact VSub.nlv rfl | exact VSub.one (VSub1.ptr rfl))))) (blks := .cons bs_cel .nil))
      simp only [decide_eq_false_iff_not] at h2
      refine s_exit ?_
      refine s_run ?_
      refine e_loop (ι := Nat) (fun i => i ≤ R.length) (fun i => R.length - i) (fun i => cV f false b (.frz 1 R.length R.length (rowI .i64 (natI R))) (i64 (e : Nat)) (.s (.bool true)) (.frz 1 (nxN f.code b).length (nxN f.code b).length (rowI .i64 (natI (nxN f.code b)))) (.junk) (i64 (i : Nat)) (.junk) (.junk) (.junk) (.junk)) (fun _ => [.cel (cellsF f)]) 0 (Nat.zero_le _) (σ := [some 0]) (fz := []) (wk _ [] _ _ (vals := (by (try dsimp only [cV]); (repeat' (first | exact VSubs.nil | apply VSubs.cons | exact VSub.one (VSub1.junk _) | exact VSub.nlv rfl | exact VSub.one (VSub1.ptr rfl))))) (blks := .cons bs_cel .nil)) ?_
      clear h2 hi i
      intro i hi
      unfold cV
      refine s_ass (s_run ?_)
      refine s_cond (fun h2 => ?_) (fun h2 => ?_)
      · simp only [decide_eq_true_eq] at h2
        obtain ⟨a, ha⟩ : ∃ a, R[i]? = some a := ⟨_, List.getElem?_eq_getElem (by omega)⟩
        have ham := List.mem_of_getElem? ha
        obtain ⟨m1, m2⟩ := k6 a ham
        obtain ⟨m3, q, m4, m5⟩ := k8 a ham
        have hqx : q < f.code.length + 1 := ex_lt (hT.step ((hT.sm a).1 (by rw [m4]; rfl)) (by omega) m4).2.1
        have hgl := govL_len (code := f.code) (a := a) f.code.length
        refine s_skip (s_block ?_)
        refine s_ass ?_
        refine s_cut (fun T' hp' => ∃ (x25 : PV), T' = [encF f, .ptr 0 0, .s (.bool false), i64 (f.code.length : Nat), .s (.bool false), i64 (b : Nat), .frz 1 R.length R.length (rowI .i64 (natI R)), i64 (e : Nat), .s (.bool true), .frz 1 (nxN f.code b).length (nxN f.code b).length (rowI .i64 (natI (nxN f.code b))), .junk, i64 (i : Nat), .junk, .junk, .junk, .junk, .junk, .junk, .junk, .junk, .junk, .junk, .junk, .junk, .junk, x25, .s (.bool false), .junk, .junk, .junk] ∧ hp' = [.cel (cellsF f)]) ?_ ?_
        · refine e_drw (g_run 1 ?_)
          refine prg_split (fun h3 => ?_) (fun h3 => ?_)
          · simp only [gt_iff_lt, decide_eq_true_eq] at h3
            obtain ⟨y, hy⟩ : ∃ y, R[i - 1]? = some y := ⟨_, List.getElem?_eq_getElem (by omega)⟩
            have hlt := k7 i a y (by omega) ha hy
            refine g_run 4 ?_
            refine prg_head (natS_at ha) ?_
            refine g_run 3 ?_
            refine prg_head (v' := i64 ((i - 1 : Nat) : Int)) (by unfold i64; congr 2; omega) ?_
            refine g_run 2 ?_
            refine prg_head (natS_at hy) ?_
            refine g_run 1 ?_
            refine prg_head (v' := .s (.bool false)) (by rw [decide_eq_false (by omega)]) ?_
            refine g_run 6 ?_
            refine prg_head (natS_at ha) ?_
            refine g_call (governs_ok hf m1) ?_
            rintro v rfl
            refine ⟨rfl, ?_⟩
            refine g_run 1 ?_
            refine g_call (has16_ok (natI (govL f.code a f.code.length)) (b : Nat) (by rw [natI_len]; omega)) ?_
            rintro v rfl
            refine ⟨rfl, ?_⟩
            refine prg_head (v' := .s (.bool true)) (by rw [mem_nat, decide_eq_true m2]) ?_
            refine g_end ?_
            exact ⟨rfl, _, rfl, rfl⟩
          · refine g_run 16 ?_
            refine prg_head (natS_at ha) ?_
            refine g_call (governs_ok hf m1) ?_
            rintro v rfl
            refine ⟨rfl, ?_⟩
            refine g_run 1 ?_
            refine g_call (has16_ok (natI (govL f.code a f.code.length)) (b : Nat) (by rw [natI_len]; omega)) ?_
            rintro v rfl
            refine ⟨rfl, ?_⟩
            refine prg_head (v' := .s (.bool true)) (by rw [mem_nat, decide_eq_true m2]) ?_
            refine g_end ?_
            exact ⟨rfl, _, rfl, rfl⟩
        rintro T' hp' ⟨x25, rfl, rfl⟩
        refine s_f (s_skip ?_)
        refine s_drw (g_run 3 ?_)
        refine prg_head (natS_at ha) ?_
        refine g_call (near_ok hf (p := a) (by omega)) ?_
        rintro v ⟨_, rfl⟩
        rw [show nearW f.code a = .tup [i64 (q : Nat), .s (.bool true)] by unfold nearW; rw [if_neg (by omega), m4]]
        refine ⟨rfl, ?_⟩
        refine g_end ?_
        refine s_ass ?_
        refine s_cut (fun T' hp' => ∃ (x25 : PV) (x26 : PV), T' = [encF f, .ptr 0 0, .s (.bool false), i64 (f.code.length : Nat), .s (.bool false), i64 (b : Nat), .frz 1 R.length R.length (rowI .i64 (natI R)), i64 (e : Nat), .s (.bool true), .frz 1 (nxN f.code b).length (nxN f.code b).length (rowI .i64 (natI (nxN f.code b))), .junk, i64 (i : Nat), i64 (q : Nat), .s (.bool true), .junk, .junk, .junk, .junk, .junk, .junk, .junk, .junk, .junk, .junk, .junk, x25, x26, .s (.bool false), .junk, .junk] ∧ hp' = [.cel (cellsF f)]) ?_ ?_
        · refine e_drw (g_run 4 ?_)
          refine prg_split (fun h3 => ?_) (fun h3 => ?_)
          · have hqe : q ≠ e := fun w => by subst w; simp at h3
            refine g_run 3 ?_
            refine g_call (has16N R _ (by omega)) ?_
            rintro v rfl
            refine ⟨rfl, ?_⟩
            refine prg_head (v' := .s (.bool true)) (by rw [mem_nat, decide_eq_true (m5 hqe)]) ?_
            refine g_run 9 ?_
            refine prg_head (natS_at ha) ?_
            refine g_call (dominates_ok hf (q := e) (p := a) hex (by omega)) ?_
            rintro v ⟨_, rfl⟩
            refine ⟨rfl, ?_⟩
            refine prg_head (v' := .s (.bool true)) (by rw [m3]) ?_
            refine g_end ?_
            exact ⟨rfl, _, _, rfl, rfl⟩
          · refine g_run 13 ?_
            refine prg_head (natS_at ha) ?_
            refine g_call (dominates_ok hf (q := e) (p := a) hex (by omega)) ?_
            rintro v ⟨_, rfl⟩
            refine ⟨rfl, ?_⟩
            refine prg_head (v' := .s (.bool true)) (by rw [m3]) ?_
            refine g_end ?_
            exact ⟨rfl, _, _, rfl, rfl⟩
        rintro T' hp' ⟨x25, x26, rfl, rfl⟩
        refine s_f (s_skip ?_)
        refine s_drw (g_run 3 ?_)
        refine prg_head (natS_at ha) ?_
        refine g_call (next_ok hf (a : Nat)) ?_
        rintro v rfl
        refine ⟨rfl, ?_⟩
        rw [← next_nat]
        unfold encI
        rw [natI_len]
        refine g_end ?_
        refine s_run ?_
        have hnla := hnl a
        refine e_loop (ι := Nat) (fun k => k ≤ (nxN f.code a).length) (fun k => (nxN f.code a).length - k) (fun k => cV f false b (.frz 1 R.length R.length (rowI .i64 (natI R))) (i64 (e : Nat)) (.s (.bool true)) (.frz 1 (nxN f.code b).length (nxN f.code b).length (rowI .i64 (natI (nxN f.code b)))) (.junk) (i64 (i : Nat)) (.junk) (.junk) (.frz 1 (nxN f.code a).length (nxN f.code a).length (rowI .i64 (natI (nxN f.code a)))) (i64 (k : Nat))) (fun _ => [.cel (cellsF f)]) 0 (Nat.zero_le _) (σ := [some 0]) (fz := []) (wk _ [] _ _ (vals := (by (try dsimp only [cV]); (repeat' (first | exact VSubs.nil | apply VSubs.cons | exact VSub.one (VSub1.junk _) | exact VSub.nlv rfl | exact VSub.one (VSub1.ptr rfl))))) (blks := .cons bs_cel .nil)) ?_
        intro k hk
        unfold cV
        refine s_ass (s_run ?_)
        refine s_cond (fun h4 => ?_) (fun h4 => ?_)
        · simp only [decide_eq_true_eq] at h4
          obtain ⟨c, hc⟩ : ∃ c, (nxN f.code a)[k]? = some c := ⟨_, List.getElem?_eq_getElem (by omega)⟩
          have hcm := List.mem_of_getElem? hc
          refine s_skip (s_block ?_)
          refine s_cut (fun T' hp' => ∃ (x28 : PV), T' = [encF f, .ptr 0 0, .s (.bool false), i64 (f.code.length : Nat), .s (.bool false), i64 (b : Nat), .frz 1 R.length R.length (rowI .i64 (natI R)), i64 (e : Nat), .s (.bool true), .frz 1 (nxN f.code b).length (nxN f.code b).length (rowI .i64 (natI (nxN f.code b))), .junk, i64 (i : Nat), .junk, .junk, .frz 1 (nxN f.code a).length (nxN f.code a).length (rowI .i64 (natI (nxN f.code a))), i64 (k : Nat), .junk, .junk, .junk, .junk, .junk, .junk, .junk, .junk, .junk, .junk, .junk, .junk, x28, .s (.bool false)] ∧ hp' = [.cel (cellsF f)]) ?_ ?_
          · refine e_reg (g_run 2 ?_)
            refine prg_head (natS_at hc) ?_
            refine g_run 1 ?_
            refine prg_split (fun h3 => ?_) (fun h3 => ?_)
            · have hce : c ≠ e := fun w => by subst w; simp at h3
              refine g_run 5 ?_
              refine prg_head (natS_at hc) ?_
              refine g_call (has16N R _ (by omega)) ?_
              rintro v rfl
              refine ⟨rfl, ?_⟩
              refine prg_head (v' := .s (.bool true)) (by rw [mem_nat, decide_eq_true (k5 a c ham hcm hce)]) ?_
              refine g_end ?_
              exact ⟨rfl, _, rfl, rfl⟩
            · refine g_end ?_
              exact ⟨rfl, _, rfl, rfl⟩
          rintro T' hp' ⟨x28, rfl, rfl⟩
          refine e_f ?_
          refine p_skip ?_
          refine e_run ?_
          refine lp_next (k + 1) (by omega) (σ := [some 0]) (fz := []) (wk _ [] _ _ (vals := (by (try dsimp only [cV]); (repeat' (first | exact VSubs.nil | apply VSubs.cons | exact VSub.one (VSub1.junk _) | exact VSub.nlv rfl | exact VSub.one (VSub1.ptr rfl))))) (blks := .cons bs_cel .nil))
        · simp only [decide_eq_false_iff_not] at h4
          refine s_exit ?_
          refine e_run ?_
          refine lp_next (i + 1) (by omega) (σ := [some 0]) (fz := []) (wk _ [] _ _ (vals := (by (try dsimp only [cV]); (repeat' (first | exact VSubs.nil | apply VSubs.cons | exact VSub.one (VSub1.junk _) | exact VSub.nlv rfl | exact VSub.one (VSub1.ptr rfl))))) (blks := .cons bs_cel .nil))
      · simp only [decide_eq_false_iff_not] at h2
        refine s_exit ?_
        refine e_run ?_
        refine lp_next (b + 1) (by omega) (σ := [some 0]) (fz := []) (wk _ [] _ _ (vals := (by (try dsimp only [cV]); (repeat' (first | exact VSubs.nil | apply VSubs.cons | exact VSub.one (VSub1.junk _) | exact VSub.nlv rfl | exact VSub.one (VSub1.ptr rfl))))) (blks := .cons bs_cel .nil))
  simp only [decide_eq_false_iff_not] at h1
  refine s_exit ?_
  refine s_run ?_
  exact p_ret fin_v
end Go.Proofs.Ytollibkfagjnaaa.Graph
