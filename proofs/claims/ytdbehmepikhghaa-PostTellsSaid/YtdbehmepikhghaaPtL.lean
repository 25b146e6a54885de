/- The law PostTells. -/
import Derived.Test.YtdbehmepikhghaaPtE
set_option linter.unusedVariables false
set_option linter.unusedSimpArgs false
set_option maxRecDepth 10000
namespace Go.Proofs.Ytdbehmepikhghaa.Graph
open Go.Proofs.Ytdbehmepikhghaa.AM Go.Proofs.Ytdbehmepikhghaa.Post
theorem treeO2_ok {f : Fn} (hf : Fit f.code) : PCall E [] 33 [encF f] [] (ownQ (treeT f.code)) := (treeO_ok hf).mono fun v hp ⟨nr, hT, e1, e2⟩ => by
  have hn := nrT_ok hT
  have ht : treeI f.code nr = treeT f.code := by unfold treeT; rw [← hn]
  refine ⟨by rw [treeT_len]; exact e1, ?_⟩
  rw [e2, ht, treeT_len]
theorem rowD_DD {code : List (Int × Int)} (hT : TreeR code (nrT code)) {r : Nat} (hr : r < code.length + 1) : rowD code r = rowDD code r := by
  refine bool_ext (by rw [rowD_len, rowDD_len]) fun b hb => ?_
  rw [rowD_len] at hb
  rw [rowD_at hb, rowDD_at hb, domB_pd hT hr]
theorem treeT_near {code : List (Int × Int)} {i : Nat} (hi : i < code.length + 1) : (treeT code).getD i 0 = ofN (nearT code i) := by
  rw [treeT_at hi]
  unfold nearT
  by_cases e : i = code.length <;> simp [e, ofN]
theorem nearI_nat {code : List (Int × Int)} {i : Nat} (hi : i < code.length + 1) : nearI code (i : Nat) = nearT code i := by
  unfold nearI
  rw [if_pos ⟨by omega, by omega⟩, Int.toNat_natCast]
/-- The first k turned round. -/
def flipK (xs : List Bool) (k : Nat) : List Bool := (List.range xs.length).map fun j => if j < k then !(xs.getD j false) else xs.getD j false
theorem flipK_len (xs : List Bool) (k : Nat) : (flipK xs k).length = xs.length := by simp [flipK]
theorem flipK_at {xs : List Bool} {k j : Nat} (hj : j < xs.length) : (flipK xs k).getD j false = if j < k then !(xs.getD j false) else xs.getD j false := by
  unfold flipK
  rw [List.getD_eq_getElem?_getD, List.getElem?_map, List.getElem?_range hj]; rfl
theorem flipK_zero (xs : List Bool) : flipK xs 0 = xs := by
  refine bool_ext (flipK_len _ _) fun b hb => ?_
  rw [flipK_len] at hb
  rw [flipK_at hb, if_neg (Nat.not_lt_zero _)]
theorem getD_setB {xs : List Bool} {k j : Nat} {v : Bool} (hk : k < xs.length) : (xs.set k v).getD j false = if j = k then v else xs.getD j false := by
  by_cases e : j = k
  · subst e
    rw [if_pos rfl, List.getD_eq_getElem?_getD, List.getElem?_set_self hk]; rfl
  · rw [if_neg e, List.getD_eq_getElem?_getD, List.getElem?_set_ne (Ne.symm e), ← List.getD_eq_getElem?_getD]
theorem flipK_succ {xs : List Bool} {k : Nat} (hk : k < xs.length) : (flipK xs k).set k (!((flipK xs k).getD k false)) = flipK xs (k + 1) := by
  refine bool_ext (by rw [List.length_set, flipK_len, flipK_len]) fun b hb => ?_
  rw [List.length_set, flipK_len] at hb
  rw [getD_setB (by rw [flipK_len]; exact hk), flipK_at hk, flipK_at hb, flipK_at hb, if_neg (Nat.lt_irrefl k)]
  by_cases e : b = k
  · subst e; simp
  · rw [if_neg e]
    by_cases h : b < k
    · rw [if_pos h, if_pos (by omega)]
    · rw [if_neg h, if_neg (by omega)]
/-- The rows, the first i of them turned round and gone on with. -/
noncomputable def rowX (code : List (Int × Int)) (i r : Nat) : List Bool := if r < i then flipK (rowDD code r) (code.length + 1) ++ [true, true] else rowDD code r
theorem pfill2 {a b : PV} (ha : pcs a = [a] ∧ okc a = true) (hb : pcs b = [b] ∧ okc b = true) : pfill ([Value.slice none 0 0, .slice none 0 0].map .s) [(0, 1, a), (1, 1, b)] = some [a, b] := by
  simp [pfill, ha.1, ha.2, hb.1, hb.2, psplice, show Nat.beq 1 1 = true from rfl, show Nat.ble 1 2 = true from rfl, show Nat.ble 2 2 = true from rfl]
noncomputable def lP (f : Fn) (pp qq : Int) (x10 x11 x13 : PV) : List PV := [encF f, i64 pp, i64 qq, .fptr 6 1 (fun _ => cellsF f) 0 0, .s (.bool false), i64 (f.code.length : Nat), .fptr 6 1 (fun _ => Kit.lentCells (toK f)) 0 0, encAllD f.code, .vec 1 0 (f.code.length + 1), encAll f.code, x10, x11, encI (treeT f.code), x13, .junk, .junk, .junk, .junk, .junk, .junk, .junk, .junk, .junk, .junk, .junk, .junk, .junk, .junk, .junk, .junk, .junk, .junk, .junk, .junk]
noncomputable def lQ (f : Fn) (a x20 x21 x22 x23 : PV) : List PV := [.junk, .junk, .junk, .fptr 6 1 (fun _ => cellsF f) 0 0, .s (.bool false), i64 (f.code.length : Nat), .fptr 6 1 (fun _ => Kit.lentCells (toK f)) 0 0, encAllD f.code, a, encAll f.code, .junk, .junk, .junk, .junk, .junk, .junk, .junk, .junk, .junk, .junk, x20, x21, x22, x23, .junk, .junk, .junk, .junk, .junk, .junk, .junk, .junk, .junk, .junk]
theorem postTells_ok {f : Fn} (hps : f.ps.length < 17592186044415) (hrs : f.rs.length < 17592186044415) (hop : ∀ i, in64 (f.code.getD i (0, 0)).1) (harg : ∀ i, in64 (f.code.getD i (0, 0)).2) (pp qq : Int) (hpp : in64 pp) (hqq : in64 qq) : PFun E 7 [encF f, i64 pp, i64 qq] (valQ (isV (.s (.bool true)))) := by
  refine p_fun ?_
  show PTri E false [] _ [encF f, i64 pp, i64 qq, .junk, .junk, .junk, .junk, .junk, .junk, .junk, .junk, .junk, .junk, .junk, .junk, .junk, .junk, .junk, .junk, .junk, .junk, .junk, .junk, .junk, .junk, .junk, .junk, .junk, .junk, .junk, .junk, .junk, .junk, .junk] _ _
  refine s_run ?_
  refine p_weak [] [0] (wk [] [0] [encF f, i64 pp, i64 qq, .fptr 6 1 (fun _ => cellsF f) 0 0, .s (.bool false), .junk, .junk, .junk, .junk, .junk, .junk, .junk, .junk, .junk, .junk, .junk, .junk, .junk, .junk, .junk, .junk, .junk, .junk, .junk, .junk, .junk, .junk, .junk, .junk, .junk, .junk, .junk, .junk, .junk] [] (vals := ?_) (blks := .nil)) ?_
  · have hptr : VSub1 [] [0] [PB.cel (cellsF f)] (.ptr 0 0) (.fptr 6 1 (fun _ => cellsF f) 0 0) := .ptrf (by decide) rfl (by omega) rfl (by simp [cellsF]) rfl fun i hi => by
      have : i = 0 := by omega
      subst this; rfl
    repeat' (first | exact VSubs.nil | apply VSubs.cons | exact VSub.one (VSub1.junk _) | exact VSub.nlv rfl | exact VSub.one hptr)
  refine s_run ?_
  refine s_ass (s_run ?_)
  refine s_cond (fun h => ?_) (fun h => ?_)
  · refine s_ass (s_reg ?_)
    refine g_call awake15_ok ?_
    rintro v rfl
    refine ⟨rfl, ?_⟩
    refine g_end ?_
    exact s_ret fin_v
  simp only [gt_iff_lt, decide_eq_false_iff_not] at h
  have hn : f.code.length ≤ 40 := by omega
  have hf : Fit f.code := ⟨by omega, hop, harg⟩
  refine s_skip ?_
  refine s_reg (g_run 1 ?_)
  refine g_call (lentFnK hps hrs hf.len) ?_
  rintro v rfl
  refine ⟨rfl, ?_⟩
  refine g_fbox (v := lentV f) 6 1 0 0 (fun _ => Kit.lentCells (toK f)) (by omega) rfl (by simp [lentV, Kit.lentF, pcs, Kit.lentCells]) (fun i hi => by
    have : i = 0 := by omega
    subst this; rfl) fun O1 => ?_
  refine g_fin ?_
  refine s_reg (g_run 1 ?_)
  refine g_call (rall_ok hf) ?_
  rintro v rfl
  refine ⟨rfl, ?_⟩
  refine g_end ?_
  refine s_reg (g_run 1 ?_)
  refine prg_castO lent_enc ?_
  refine g_icall (allO_ok hf) ?_
  rintro v hp ⟨hT, rfl, lo, hB⟩
  refine g_fin ?_
  have hDD : ∀ r, r < f.code.length + 1 → rowD f.code r = rowDD f.code r := fun r hr => rowD_DD hT hr
  replace hB := hB.congr (row' := rowDD f.code) (ex' := fun _ => true) hDD fun _ _ => rfl
  have hlo : lo ≤ hp.length := by obtain ⟨_, _, _, _, _, h, _⟩ := hB; exact h
  have hlo1 : 0 < lo := by obtain ⟨_, _, _, _, h, _, _⟩ := hB; exact h
  have tl := treeT_len f.code
  refine s_reg (g_pureD 1 fun O2 => ?_)
  refine prg_castO lent_enc ?_
  refine g_call (allP_ok hf) ?_
  rintro v ⟨_, rfl⟩
  refine ⟨rfl, ?_⟩
  refine g_fin ?_
  refine s_reg (g_pureD 1 fun O3 => ?_)
  refine prg_castO lent_enc ?_
  refine prg_own (treeO2_ok hf) (.cons (.nlv rfl) .nil) fun vt ap1 md1 cnt1 ht => ?_
  refine g_fin ?_
  refine s_reg (g_pureD 1 fun O4 => ?_)
  refine prg_castO lent_enc ?_
  refine prg_own (treeO2_ok hf) (.cons (.nlv rfl) .nil) fun vu ap2 md2 cnt2 hu => ?_
  refine g_fin ?_
  refine s_reg (g_pureD 1 fun O5 => ?_)
  refine g_call (rtree_ok hf) ?_
  rintro v rfl
  refine ⟨rfl, ?_⟩
  refine prg_head (v' := encI (treeT f.code)) (by unfold treeD; rw [treeO_eq hT]) ?_
  refine g_fin ?_
  replace hB := (hB.app ap1).app ap2
  have ht' : OwnV (hp ++ ap1) vt (treeT f.code).length (rowI .i64 (treeT f.code)) hp.length (hp ++ ap1).length := ht
  replace hu : OwnV (hp ++ ap1 ++ ap2) vu (treeT f.code).length (rowI .i64 (treeT f.code)) (hp ++ ap1).length (hp ++ ap1 ++ ap2).length := hu
  replace ht := ht'.app ap2
  clear ht'
  have hap : hp.length ≤ (hp ++ ap1).length := by simp
  generalize hqe : hp ++ ap1 ++ ap2 = hq at *
  -- four comparisons
  refine s_ass (s_reg ?_)
  refine g_icall (rowsO_ok (row := rowDD f.code) (by omega) (fun i hi => by rw [rowDD_len]; omega) hB) ?_
  rintro v hp' ⟨rfl, hpe⟩
  rw [hpe]
  refine g_pureD 3 fun O6 => ?_
  refine g_call (rowsF_ok (row := rowD f.code) (row' := rowDD f.code) (m := f.code.length + 1) (by omega) (fun i hi => by rw [rowD_len]; omega) hDD) ?_
  rintro v rfl
  refine ⟨rfl, ?_⟩
  refine g_pureD 4 fun O7 => ?_
  refine prg_intsO (v := vt) (xs := treeT f.code) rfl rfl ht (by rw [tl]; omega) fun md3 cnt3 => ?_
  refine g_pureD 4 fun O8 => ?_
  refine prg_intsO (v := vu) (xs := treeT f.code) rfl rfl hu (by rw [tl]; omega) fun md4 cnt4 => ?_
  refine g_pureD 2 fun O9 => ?_
  refine g_fin ?_
  refine s_f (s_skip ?_)
  -- each node
  refine s_ass (s_pure ?_)
  refine s_loopA (ι := Nat) (fun i hp => i ≤ f.code.length + 1 ∧ hp = hq) (fun i => f.code.length + 1 - i) (fun i => lP f pp qq vt vu (i64 (i : Nat))) 0 ⟨Nat.zero_le _, rfl⟩ (by unfold lP; repeat' (first | exact TSub.nil | apply TSub.same | apply TSub.junk)) ?_
  · rintro i hp' ⟨hi, hpe⟩
    rw [hpe]
    unfold lP
    refine s_ass (s_pure ?_)
    refine s_cond (fun h1 => ?_) (fun h1 => ?_)
    · simp only [decide_eq_true_eq] at h1
      have hi1 : i < f.code.length + 1 := by omega
      refine s_skip (s_block ?_)
      refine s_reg (g_pureD 1 fun O10 => ?_)
      refine prg_castO lent_enc ?_
      refine g_call (nearI_ok hf (p := (i : Nat)) (by unfold in64; omega)) ?_
      rintro v rfl
      rw [nearI_nat hi1]
      have htr := treeT_near (code := f.code) hi1
      cases ho : nearT f.code i with
      | none =>
        rw [ho] at htr
        refine ⟨rfl, ?_⟩
        refine g_pureD 2 fun O11 => ?_
        refine g_fin ?_
        refine s_drw (g_pureG 2 (hq := by simp only [tl, and_true, true_and]; omega) ?_)
        refine prg_head (v' := i64 (-1)) (by rw [htr]; rfl) ?_
        refine g_pureG 19 ?_
        refine g_pureG 1 ?_
        refine prg_castO lent_enc ?_
        refine g_pureG 1 ?_
        refine g_call (dominatesI_ok hf hT (q := (i : Nat)) (p := 0) (by unfold in64; omega) (by unfold in64; omega)) ?_
        rintro v rfl
        refine ⟨rfl, ?_⟩
        refine g_pureG 3 ?_
        refine g_pureG 3 (hq := by simp only [rowDD_len, and_true, true_and]; omega) ?_
        refine prg_head (v' := .s (.bool (domI f.code (i : Nat) 0))) (by rw [rowDD_at hi1]; exact congrArg (fun b => PV.s (.bool b)) (domI_nat (q := i) (p := 0) hi1 (by omega)).symm) ?_
        refine g_pureG 1 ?_
        refine prg_head (v' := .s (.bool false)) (by cases domI f.code (i : Nat) 0 <;> rfl) ?_
        refine g_pureG 1 ?_
        refine g_fin ?_
        refine e_f ?_
        refine p_skip ?_
        refine e_pure ?_
        exact ⟨i + 1, ⟨by omega, rfl⟩, by dsimp only; omega, by (try dsimp only [lP]); repeat' (first | exact TSub.nil | apply TSub.same | apply TSub.junk)⟩
      | some b =>
        rw [ho] at htr
        refine ⟨rfl, ?_⟩
        refine g_pureD 2 fun O11 => ?_
        refine g_fin ?_
        refine s_drw (g_pureG 2 (hq := by simp only [tl, and_true, true_and]; omega) ?_)
        refine prg_head (v' := i64 (b : Nat)) (by rw [htr]; rfl) ?_
        refine g_pureG 1 ?_
        refine prg_head (v' := .s (.bool true)) (by rw [decide_eq_true (by omega)]) ?_
        refine g_pureG 8 (hq := by simp only [tl, and_true, true_and]; omega) ?_
        refine prg_head (v' := i64 (b : Nat)) (by rw [htr]; rfl) ?_
        refine g_pureG 1 ?_
        refine prg_head (v' := .s (.bool false)) (by congr 2; exact bne_self_eq_false _) ?_
        refine g_pureG 9 ?_
        refine g_pureG 1 ?_
        refine prg_castO lent_enc ?_
        refine g_pureG 1 ?_
        refine g_call (dominatesI_ok hf hT (q := (i : Nat)) (p := 0) (by unfold in64; omega) (by unfold in64; omega)) ?_
        rintro v rfl
        refine ⟨rfl, ?_⟩
        refine g_pureG 3 ?_
        refine g_pureG 3 (hq := by simp only [rowDD_len, and_true, true_and]; omega) ?_
        refine prg_head (v' := .s (.bool (domI f.code (i : Nat) 0))) (by rw [rowDD_at hi1]; exact congrArg (fun b => PV.s (.bool b)) (domI_nat (q := i) (p := 0) hi1 (by omega)).symm) ?_
        refine g_pureG 1 ?_
        refine prg_head (v' := .s (.bool false)) (by cases domI f.code (i : Nat) 0 <;> rfl) ?_
        refine g_pureG 1 ?_
        refine g_fin ?_
        refine e_f ?_
        refine p_skip ?_
        refine e_pure ?_
        exact ⟨i + 1, ⟨by omega, rfl⟩, by dsimp only; omega, by (try dsimp only [lP]); repeat' (first | exact TSub.nil | apply TSub.same | apply TSub.junk)⟩
    -- whatever node
    simp only [decide_eq_false_iff_not] at h1
    refine s_exit ?_
    obtain ⟨x, ok, hx⟩ : ∃ x ok, nearV (nearI f.code pp) = .tup [i64 x, .s (.bool ok)] := by
      cases nearI f.code pp with
      | none => exact ⟨_, _, rfl⟩
      | some e => exact ⟨_, _, rfl⟩
    refine s_reg (g_pureD 1 fun O12 => ?_)
    refine prg_castO lent_enc ?_
    refine g_call (nearI_ok hf hpp) ?_
    rintro v rfl
    rw [hx]
    refine ⟨rfl, ?_⟩
    refine g_pureD 2 fun O13 => ?_
    refine g_fin ?_
    refine s_reg (g_pureD 1 fun O14 => ?_)
    refine g_call (rnearI_ok hf hpp) ?_
    rintro v rfl
    rw [nearR_eq hT, hx]
    refine ⟨rfl, ?_⟩
    refine g_pureD 2 fun O15 => ?_
    refine g_fin ?_
    refine s_ass (s_drw (g_pureG 1 ?_))
    refine prg_head (v' := .s (.bool false)) (by congr 2; exact bne_self_eq_false _) ?_
    refine g_pureG 3 ?_
    refine prg_head (v' := .s (.bool false)) (by cases ok <;> rfl) ?_
    refine g_pureG 2 ?_
    refine prg_castO lent_enc ?_
    refine g_pureG 2 ?_
    refine g_call (dominatesI_ok hf hT hqq hpp) ?_
    rintro v rfl
    refine ⟨rfl, ?_⟩
    refine g_pureG 3 ?_
    refine g_call (rdom_ok hf hqq hpp) ?_
    rintro v rfl
    refine ⟨rfl, ?_⟩
    refine g_pureG 1 ?_
    refine prg_head (v' := .s (.bool false)) (by cases domI f.code qq pp <;> rfl) ?_
    refine g_pureG 3 ?_
    refine g_call (keptFnK hps hrs hf.len) ?_
    rintro v rfl
    refine ⟨rfl, ?_⟩
    refine g_pureG 4 ?_
    have htc := ht.cell
    have huc := hu.cell
    obtain ⟨b1, u1, rfl, t1, t2, t3⟩ := ht
    obtain ⟨b2, u2, rfl, w1, w2, w3⟩ := hu
    refine tab_mkcel (l := [(0, 1, _), (1, 1, _)]) rfl (pfill2 ⟨htc.1, htc.2.1⟩ ⟨huc.1, huc.2.1⟩) (by simp [htc.2.1, huc.2.1]) ?_
    have app1 : ∀ (B : PB) (b : Nat), b < hq.length → (hq ++ [B])[b]? = hq[b]? := fun B b h => List.getElem?_append_left h
    refine prg_apart2 (x := .loc 0) (b1 := b1) (b2 := b2) rfl (by rw [List.getElem?_append_right (Nat.le_refl _), Nat.sub_self]; rfl) (by rw [app1 _ _ (List.getElem?_eq_some_iff.1 t3).1]; exact t3) (by rw [app1 _ _ (List.getElem?_eq_some_iff.1 w3).1]; exact w3) (by omega) (by rw [tl]; omega) (by rw [tl]; omega) (fun _ _ => rfl) (fun _ _ => rfl) fun hp2 md5 cnt5 hkeep => ?_
    obtain ⟨hk1, hk2⟩ := hkeep
    have hloq : lo ≤ hq.length := by obtain ⟨_, _, _, _, _, h, _⟩ := hB; exact h
    replace hB : BTab hp2 0 (f.code.length + 1) (f.code.length + 1) lo (rowDD f.code) (fun _ => true) := hB.keep (fun b hb => by rw [hk2 b (Nat.ne_of_lt (Nat.lt_of_lt_of_le hb hloq)) (by omega) (by omega), app1 _ _ (by omega)]) (by rw [hk1]; simp; omega)
    refine g_pureG 2 ?_
    refine g_fin ?_
    refine s_f (s_skip ?_)
    -- turned round and gone on with
    refine s_ass (s_pure ?_)
    refine s_loopA (ι := Nat) (fun i hp => i ≤ f.code.length + 1 ∧ ∃ lo, BTab hp 0 (f.code.length + 1) (f.code.length + 1) lo (rowX f.code i) (fun r => decide (i ≤ r))) (fun i => f.code.length + 1 - i) (fun i => lQ f (.vec 1 0 (f.code.length + 1)) (i64 (i : Nat)) .junk .junk .junk) 0 ⟨Nat.zero_le _, lo, hB.congr (fun r hr => by unfold rowX; rw [if_neg (Nat.not_lt_zero _)]) fun r hr => by rw [decide_eq_true (Nat.zero_le _)]⟩ (by unfold lQ; repeat' (first | exact TSub.nil | apply TSub.same | apply TSub.junk)) ?_
    clear hB
    rintro i hp3 ⟨hi, lo3, hB⟩
    unfold lQ
    refine s_ass (s_pure ?_)
    refine s_cond (fun h2 => ?_) (fun h2 => ?_)
    · simp only [decide_eq_true_eq] at h2
      have hi1 : i < f.code.length + 1 := by omega
      refine s_skip (s_block ?_)
      refine s_ass (s_pure ?_)
      refine s_loopA (ι := Nat) (fun k hp => k ≤ f.code.length + 1 ∧ BTab hp 0 (f.code.length + 1) (f.code.length + 1) lo3 (fun r => if r = i then flipK (rowDD f.code i) k else rowX f.code i r) (fun r => decide (i ≤ r))) (fun k => f.code.length + 1 - k) (fun k => lQ f (.vec 1 0 (f.code.length + 1)) (i64 (i : Nat)) (i64 (k : Nat)) .junk .junk) 0 ⟨Nat.zero_le _, hB.congr (fun r hr => by
          by_cases e : r = i
          · rw [if_pos e, flipK_zero, e]; unfold rowX; rw [if_neg (Nat.lt_irrefl _)]
          · rw [if_neg e]) fun r hr => rfl⟩ (by (try dsimp only [lQ]); repeat' (first | exact TSub.nil | apply TSub.same | apply TSub.junk)) ?_
      clear hB
      rintro k hp4 ⟨hk, hB⟩
      unfold lQ
      have hat := hB.at' hi1
      obtain ⟨cs, b, fb, full, hbk, hcl, hcv, hblo, hb, hfe⟩ := hat
      simp only [if_true, Nat.le_refl, decide_true, hvx, flipK_len, rowDD_len] at hcv hb hfe
      replace hfe := hfe trivial
      subst hfe
      refine s_ass (s_pure ?_)
      refine s_cond (fun h3 => ?_) (fun h3 => ?_)
      · simp only [decide_eq_true_eq] at h3
        have hk1 : k < f.code.length + 1 := by omega
        refine s_skip (s_block (e_drw ?_))
        refine prg_v (v := .eptr 1 0 i 0) (q := i < f.code.length + 1) rfl ?_ hi1 rfl
        refine prg_cast eptr_ptr ?_
        refine prg_v (v := .exv 1 b (f.code.length + 1)) (q := True) (by simp only [pval, psev, List.getElem?_cons_zero, pload, hbk, pcells, hcv]; rfl) ?_ trivial rfl
        refine prg_v (v := .eptr 1 0 i 0) (q := i < f.code.length + 1) rfl ?_ hi1 rfl
        refine prg_cast eptr_ptr ?_
        refine prg_v (v := .exv 1 b (f.code.length + 1)) (q := True) (by simp only [pval, psev, List.getElem?_cons_zero, pload, hbk, pcells, hcv]; rfl) ?_ trivial rfl
        refine prg_v (v := .eptr 1 b k 0) (q := k < f.code.length + 1) rfl ?_ hk1 rfl
        refine prg_v (v := .s (.bool ((flipK (rowDD f.code i) k).getD k false))) (q := k < f.code.length + 1 ∧ 1 = 1) (by simp only [pval, psev, List.getElem?_cons_zero, pload, hb]; rfl) ?_ ⟨hk1, rfl⟩ rfl
        refine prg_v (v := .s (.bool (!((flipK (rowDD f.code i) k).getD k false)))) (q := True) rfl ?_ trivial rfl
        refine prg_v (v := .eptr 1 b k 0) (q := k < f.code.length + 1) rfl ?_ hk1 rfl
        refine prg_e (v := .junk) (q := 1 = 1 ∧ k < f.code.length + 1) (hp' := hp4.set b (.vec 1 (f.code.length + 1) (fun j => if j = k then [.s (.bool (!((flipK (rowDD f.code i) k).getD k false)))] else rowB (flipK (rowDD f.code i) k) j) full)) (by
          simp only [peff, pstore, psev, List.getElem?_cons_zero, List.getElem?_cons_succ, hb]
          simp [pcs, okc, nlb, oneCell, show Nat.ble 1 1 = true from rfl, show Nat.beq 1 1 = true from rfl]
          refine congrArg _ (congrArg (fun g => PB.vec 1 (f.code.length + 1) g full) ?_)
          funext j
          split
          · next e => rw [e]; exact psplice1 rfl
          · rfl) ?_ ⟨rfl, hk1⟩
        refine g_fin ?_
        refine e_pure ?_
        have hlen : ((fun r => if r = i then flipK (rowDD f.code i) k else rowX f.code i r) i).length = f.code.length + 1 := by
          simp only [if_true, flipK_len, rowDD_len]
        have hput := hB.put (i := i) (j := k) (b := b) (v := !((flipK (rowDD f.code i) k).getD k false)) (full := full) (f := rowB (flipK (rowDD f.code i) k)) hbk hi1 (by rw [hlen]; exact hk1) (by simp) (by rw [hlen]; exact hcv) (by rw [hlen]; exact hb)
        rw [hlen] at hput
        exact ⟨k + 1, ⟨hk1, hput.congr (fun r hr => by
          (try dsimp only)
          by_cases e : r = i
          · subst e
            simp only [if_true]
            exact flipK_succ (by rw [rowDD_len]; exact hk1)
          · simp only [if_neg e]) fun r hr => rfl⟩, by dsimp only; omega, by (try dsimp only [lQ]); repeat' (first | exact TSub.nil | apply TSub.same | apply TSub.junk)⟩
      · simp only [decide_eq_false_iff_not] at h3
        have hke : k = f.code.length + 1 := by omega
        subst hke
        refine s_exit ?_
        refine e_reg ?_
        have hbl := (List.getElem?_eq_some_iff.1 hb).1
        have h0l := (List.getElem?_eq_some_iff.1 hbk).1
        refine prg_v (v := .eptr 1 0 i 0) (q := i < f.code.length + 1) rfl ?_ hi1 rfl
        refine prg_cast eptr_ptr ?_
        refine prg_v (v := .exv 1 b (f.code.length + 1)) (q := True) (by simp only [pval, psev, List.getElem?_cons_zero, pload, hbk, pcells, hcv]; rfl) ?_ trivial rfl
        obtain ⟨g1, hg1⟩ : ∃ g : Nat → List PV, (fun j => ([PV.s (.bool true), PV.s (.bool true)].drop (j * 1)).take 1) = g := ⟨_, rfl⟩
        refine prg_e (v := .vec 1 hp4.length 2) (hp' := hp4 ++ [.vec 1 2 g1 true]) (q := True) (by
          simp only [peff, pparts, psev, pmkarr, pfill, fnat_eq, force_eq, ← hg1]
          simp [pcs, okc, oneCell, nlb, psplice, show Nat.ble 1 1 = true from rfl, show Nat.ble 1 2 = true from rfl, show Nat.ble 2 2 = true from rfl, show Nat.blt 0 2 = true from rfl, show Nat.beq 1 1 = true from rfl, show Nat.beq 2 2 = true from rfl]) ?_ trivial
        have hnew : ∀ (A : PH) (B : PB), (A ++ [B])[A.length]? = some B := fun A B => by simp
        have hb1 : (hp4 ++ [PB.vec 1 2 g1 true])[b]? = some (.vec 1 (f.code.length + 1) (rowB (flipK (rowDD f.code i) (f.code.length + 1))) full) := by rw [List.getElem?_append_left hbl]; exact hb
        refine prg_e (v := .vec 1 (hp4.length + 1) (f.code.length + 1 + 2)) (hp' := hp4 ++ [PB.vec 1 2 g1 true] ++ [PB.vec 1 (f.code.length + 1 + 2) (fun j => if j < f.code.length + 1 then rowB (flipK (rowDD f.code i) (f.code.length + 1)) j else g1 (j - (f.code.length + 1))) true]) (q := (2 ≤ 2 ∧ 1 = 1) ∧ 0 < 2 ∧ f.code.length + 1 ≤ f.code.length + 1 ∧ 1 = 1 ∧ 1 = 1 ∧ (f.code.length + 1 + 2) * 1 ≤ room ∧ 0 < 1) (by
          simp only [peff, psev, List.getElem?_cons_zero, List.getElem?_cons_succ, pappend, psrc, hnew, fnat_eq, hb1]
          simp [show Nat.beq 1 1 = true from rfl]) ?_ ⟨⟨Nat.le_refl _, rfl⟩, by decide, Nat.le_refl _, rfl, rfl, by simp only [room]; omega, by decide⟩
        refine prg_v (v := .eptr 1 0 i 0) (q := i < f.code.length + 1) rfl ?_ hi1 rfl
        refine prg_cast eptr_ptr ?_
        have h0' : (hp4 ++ [PB.vec 1 2 g1 true] ++ [PB.vec 1 (f.code.length + 1 + 2) (fun j => if j < f.code.length + 1 then rowB (flipK (rowDD f.code i) (f.code.length + 1)) j else g1 (j - (f.code.length + 1))) true])[0]? = some (.cel cs) := by
          rw [List.getElem?_append_left (by simp), List.getElem?_append_left h0l]; exact hbk
        refine prg_e (v := .junk) (q := True) (hp' := (hp4 ++ [PB.vec 1 2 g1 true] ++ [PB.vec 1 (f.code.length + 1 + 2) (fun j => if j < f.code.length + 1 then rowB (flipK (rowDD f.code i) (f.code.length + 1)) j else g1 (j - (f.code.length + 1))) true]).set 0 (.cel (cs.set i (.vec 1 (hp4.length + 1) (f.code.length + 1 + 2))))) (by
          simp only [peff, pstore, psev, List.getElem?_cons_zero, List.getElem?_cons_succ, h0', force_eq]
          have : Nat.ble (i + 1) cs.length = true := by rw [Nat.ble_eq]; omega
          simp [pcs, okc, this, psplice]) ?_ trivial
        refine g_fin ?_
        refine e_pure ?_
        have hxl : (flipK (rowDD f.code i) (f.code.length + 1) ++ [true, true]).length = f.code.length + 1 + 2 := by rw [List.length_append, flipK_len, rowDD_len]; rfl
        have hlo4 : lo3 ≤ hp4.length := by obtain ⟨_, _, _, _, _, h, _⟩ := hB; exact h
        have hgr := hB.grow (i := i) (b := hp4.length + 1) (hp' := hp4 ++ [PB.vec 1 2 g1 true] ++ [PB.vec 1 (f.code.length + 1 + 2) (fun j => if j < f.code.length + 1 then rowB (flipK (rowDD f.code i) (f.code.length + 1)) j else g1 (j - (f.code.length + 1))) true]) (full := true) (g := fun j => if j < f.code.length + 1 then rowB (flipK (rowDD f.code i) (f.code.length + 1)) j else g1 (j - (f.code.length + 1))) (xs := flipK (rowDD f.code i) (f.code.length + 1) ++ [true, true]) hbk hi1 (by omega) (fun q hq => by rw [List.append_assoc, List.getElem?_append_left (by omega)]) (by
          rw [hxl, List.getElem?_append_right (by simp)]
          simp) (fun q hq => by
          rw [hxl] at hq
          show (if q < f.code.length + 1 then _ else _) = _
          unfold rowB
          by_cases w : q < f.code.length + 1
          · rw [if_pos w, List.getD_eq_getElem?_getD, List.getD_eq_getElem?_getD, List.getElem?_append_left (by rw [flipK_len, rowDD_len]; exact w)]
          · rw [if_neg w, List.getD_eq_getElem?_getD, List.getElem?_append_right (by rw [flipK_len, rowDD_len]; omega), flipK_len, rowDD_len, ← hg1]
            have : q - (f.code.length + 1) = 0 ∨ q - (f.code.length + 1) = 1 := by omega
            rcases this with e | e <;> rw [e] <;> rfl)
        rw [hxl] at hgr
        exact ⟨i + 1, ⟨hi1, _, hgr.congr (fun r hr => by
          (try dsimp only)
          by_cases e : r = i
          · subst e
            rw [if_pos rfl]; unfold rowX; rw [if_pos (Nat.lt_succ_self _)]
          · rw [if_neg e, if_neg e]
            unfold rowX
            by_cases w : r < i
            · rw [if_pos w, if_pos (by omega)]
            · rw [if_neg w, if_neg (by omega)]) fun r hr => by
          (try dsimp only)
          by_cases e : r = i
          · subst e
            rw [if_pos rfl, decide_eq_false (by omega)]
          · rw [if_neg e, decide_eq_decide]; omega⟩, by dsimp only; omega, by (try dsimp only [lQ]); repeat' (first | exact TSub.nil | apply TSub.same | apply TSub.junk)⟩
    -- and looked at again
    simp only [decide_eq_false_iff_not] at h2
    have hie : i = f.code.length + 1 := by omega
    subst hie
    refine s_exit ?_
    obtain ⟨fz, hfz⟩ := hB.frz
    refine p_weak [] fz (wk [] fz (lQ f (.frz 1 (f.code.length + 1) (f.code.length + 1) fun i => [encB (rowX f.code (f.code.length + 1) i)]) .junk .junk .junk .junk) [] (vals := ?_) (blks := .nil)) ?_
    · dsimp only [lQ]
      repeat' (first | exact VSubs.nil | apply VSubs.cons | exact VSub.one (VSub1.junk _) | exact VSub.nlv rfl | exact VSub.one (hfz _))
    unfold lQ
    refine s_ass (s_run ?_)
    refine s_loop (ι := Nat) (fun i => i ≤ f.code.length + 1) (fun i => f.code.length + 1 - i) (fun i => lQ f (.frz 1 (f.code.length + 1) (f.code.length + 1) fun i => [encB (rowX f.code (f.code.length + 1) i)]) .junk .junk (i64 (i : Nat)) .junk) (fun _ => []) 0 (Nat.zero_le _) (σ := []) (fz := []) (wk _ [] _ _ (vals := by (try dsimp only [lQ]); repeat' (first | exact VSubs.nil | apply VSubs.cons | exact VSub.one (VSub1.junk _) | exact VSub.nlv rfl)) (blks := .nil)) ?_
    intro i hi
    unfold lQ
    refine s_ass (s_run ?_)
    refine s_cond (fun h3 => ?_) (fun h3 => ?_)
    · simp only [decide_eq_true_eq] at h3
      have hi1 : i < f.code.length + 1 := by omega
      have hxe : rowX f.code (f.code.length + 1) i = flipK (rowDD f.code i) (f.code.length + 1) ++ [true, true] := by unfold rowX; rw [if_pos hi1]
      have hxl : (rowX f.code (f.code.length + 1) i).length = f.code.length + 1 + 2 := by rw [hxe, List.length_append, flipK_len, rowDD_len]; rfl
      refine s_skip (s_block ?_)
      refine s_run ?_
      refine e_loop (ι := Nat) (fun k => k ≤ f.code.length + 1) (fun k => f.code.length + 1 - k) (fun k => lQ f (.frz 1 (f.code.length + 1) (f.code.length + 1) fun i => [encB (rowX f.code (f.code.length + 1) i)]) .junk .junk (i64 (i : Nat)) (i64 (k : Nat))) (fun _ => []) 0 (Nat.zero_le _) (σ := []) (fz := []) (wk _ [] _ _ (vals := by (try dsimp only [lQ]); repeat' (first | exact VSubs.nil | apply VSubs.cons | exact VSub.one (VSub1.junk _) | exact VSub.nlv rfl)) (blks := .nil)) ?_
      intro k hk
      unfold lQ
      refine s_ass (s_run ?_)
      refine s_cond (fun h4 => ?_) (fun h4 => ?_)
      · simp only [decide_eq_true_eq] at h4
        have hk1 : k < f.code.length + 1 := by omega
        refine s_skip (s_block (s_drw (g_run 2 ?_)))
        refine g_run 2 (hq := by simp only [hxl, and_true, true_and]; omega) ?_
        refine prg_head (v' := .s (.bool (!(domB f.code k i)))) (by
          congr 2
          rw [hxe, List.getD_eq_getElem?_getD, List.getElem?_append_left (by rw [flipK_len, rowDD_len]; exact hk1), ← List.getD_eq_getElem?_getD, flipK_at (by rw [rowDD_len]; exact hk1), if_pos hk1, rowDD_at hk1]) ?_
        refine g_run 2 ?_
        refine g_run 2 (hq := by simp only [rowDD_len, and_true, true_and]; omega) ?_
        rw [rowDD_at hk1]
        refine g_run 1 ?_
        refine prg_head (v' := .s (.bool false)) (by cases domB f.code k i <;> rfl) ?_
        refine g_end ?_
        refine e_f ?_
        refine p_skip ?_
        refine e_run ?_
        exact lp_next (k + 1) (by omega) (σ := []) (fz := []) (wk _ [] _ _ (vals := by (try dsimp only [lQ]); repeat' (first | exact VSubs.nil | apply VSubs.cons | exact VSub.one (VSub1.junk _) | exact VSub.nlv rfl)) (blks := .nil))
      · refine s_exit ?_
        refine e_run ?_
        exact lp_next (i + 1) (by omega) (σ := []) (fz := []) (wk _ [] _ _ (vals := by (try dsimp only [lQ]); repeat' (first | exact VSubs.nil | apply VSubs.cons | exact VSub.one (VSub1.junk _) | exact VSub.nlv rfl)) (blks := .nil))
    refine s_exit ?_
    refine s_reg ?_
    refine g_call (rowsF_ok (row := rowD f.code) (row' := rowDD f.code) (m := f.code.length + 1) (by omega) (fun i hi => by rw [rowD_len]; omega) hDD) ?_
    rintro v rfl
    refine ⟨rfl, ?_⟩
    refine g_run 2 ?_
    refine g_call (keptFnK hps hrs hf.len) ?_
    rintro v rfl
    refine ⟨rfl, ?_⟩
    refine g_run 1 ?_
    refine g_call awake15_ok ?_
    rintro v rfl
    refine ⟨rfl, ?_⟩
    refine g_end ?_
    exact p_ret fin_v
end Go.Proofs.Ytdbehmepikhghaa.Graph
