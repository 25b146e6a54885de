/- What the worker does: an instruction makes of its frame what the document tells. PRINTED by genM.py. -/
import Derived.Test.YtollibkfagjnaaaShapeKitL
set_option linter.unusedVariables false
set_option linter.unusedSimpArgs false
set_option maxRecDepth 10000
namespace Go.Proofs.Ytollibkfagjnaaa.Shape.Kit
open Go.Proofs.Ytollibkfagjnaaa.AM
def DoR (S : SS) (lvl : Int) (v : PV) (hp : PH) : Prop := v = u64 S.cd ∧ ((∃ ys k, k ≤ ys.length ∧ S.st = ys.take k ∧ hp = wH ys k S.lo lvl S.kp) ∨ hp = wP S.st S.lo lvl S.kp)
theorem dor_w {S : SS} {ys lo : List Int} {k : Nat} {lvl cd : Int} {kp : Bool} (hk : k ≤ ys.length) (e : S = ⟨ys.take k, lo, cd, kp⟩) : DoR S lvl (u64 cd) (wH ys k lo lvl kp) := by
  subst e; exact ⟨rfl, .inl ⟨ys, k, hk, rfl, rfl⟩⟩
theorem dor_p {S : SS} {st lo : List Int} {lvl cd : Int} {kp : Bool} (e : S = ⟨st, lo, cd, kp⟩) : DoR S lvl (u64 cd) (wP st lo lvl kp) := by
  subst e; exact ⟨rfl, .inr rfl⟩
theorem drop_1 {xs : List Int} {k : Nat} (h : xs.length = k + 1) : xs.drop k = [xs.getD k 0] := by
  rw [List.drop_eq_getElem_cons (by omega), List.drop_of_length_le (by omega), List.getD_eq_getElem?_getD, List.getElem?_eq_getElem (by omega)]; rfl
theorem drop_2 {xs : List Int} {k : Nat} (h : xs.length = k + 2) : xs.drop k = [xs.getD k 0, xs.getD (k + 1) 0] := by
  rw [List.drop_eq_getElem_cons (by omega), List.drop_eq_getElem_cons (by omega), List.drop_of_length_le (by omega), List.getD_eq_getElem?_getD, List.getD_eq_getElem?_getD, List.getElem?_eq_getElem (by omega), List.getElem?_eq_getElem (by omega)]; rfl
theorem one_rowU {x : Int} (i : Nat) (hi : i < 1) : ([u64 x].drop (i * 1)).take 1 = rowI .u64 [x] i := by
  have : i = 0 := by omega
  subst this; rfl
theorem need_eq (x lvl r : Int) : needB true x lvl r = inU (orU (orU lvl x) lvl) r := by
  unfold needB; rw [join2, orU_comm lvl x, orU_self2]; rfl
/-- Needed one after another. -/
def needF (lvl : Int) (l r : List Int) : Nat → Bool
  | 0 => true
  | i + 1 => needB (needF lvl l r i) (l.getD i 0) lvl (r.getD i 0)
theorem needF_cons (lvl x y : Int) (l r : List Int) : ∀ i, needF lvl (x :: l) (y :: r) (i + 1) = (inU (orU x lvl) y && needF lvl l r i)
  | 0 => by simp [needF, needB, join2]
  | i + 1 => by
    rw [needF, needF_cons lvl x y l r i]
    simp only [needF, needB, List.getD_cons_succ, Bool.and_assoc]
theorem needF_all (lvl : Int) : ∀ (l r : List Int), l.length = r.length → needF lvl l r l.length = allIn lvl l r
  | [], _, _ => rfl
  | x :: l, [], h => by simp at h
  | x :: l, y :: r, h => by
    rw [List.length_cons, needF_cons, needF_all lvl l r (by simpa using h)]
    rfl
variable {m : Md} {f : Nat} {op A : Int} {xs lo : List Int} {lvl : Int}
theorem do_ok (hf : MdFits m) (hfn : f < m.fns.length) (hop : (1 ≤ op ∧ op ≤ 17) ∨ (32 ≤ op ∧ op ≤ 47)) (hlo : op = 33 ∨ op = 34 → 0 ≤ A ∧ A < lo.length) (hgs : op = 35 ∨ op = 36 → 0 ≤ A ∧ A < m.gs.length) (har : op = 37 ∨ op = 38 → 0 ≤ A ∧ A < m.arrays.length) (hca : op = 45 → 0 ≤ A ∧ A < m.fns.length) (hch : op = 47 → 0 ≤ A ∧ A < m.chans.length)
    (n : Nat) (hgs45 : ∀ a, a < m.fns.length → ∀ g, fnAt m a = g → g.rs.length < 17592180000000) (hn : xs.length = n) (hpop : (effS m f op A).1 ≤ n) (hsm : n < 1000000) (hlvl : U64 lvl) : PCall E [0, 1, 2] 56 [.ptr 0 0, lentM m, i64 (f : Nat), .agg [i64 op, i64 A]] (wH xs n lo lvl true) (DoR (stepS m f op A xs lo lvl) lvl) := by
  have htk : xs.take n = xs := by rw [← hn, List.take_length]
  refine p_fnw ?_
  show PTri E false _ _ [.ptr 0 0, lentM m, i64 (f : Nat), .agg [i64 op, i64 A], .junk, .junk, .junk, .junk, .junk, .junk, .junk, .junk, .junk, .junk, .junk, .junk, .junk, .junk, .junk, .junk, .junk, .junk, .junk, .junk, .junk, .junk, .junk, .junk, .junk, .junk, .junk, .junk, .junk, .junk, .junk, .junk, .junk, .junk, .junk, .junk, .junk] _ _
  refine s_run ?_
  refine s_run ?_
  refine s_ass (s_run ?_)
  refine s_block ?_
  by_cases h32 : op = 32
  · subst h32
    repeat (first | refine s_ass ?_ | refine s_t ?_ | refine s_f ?_ | refine s_skip ?_ | refine s_block ?_ | refine s_run ?_ | refine e_t ?_ | refine e_f ?_ | refine p_skip ?_ | refine p_block ?_ | refine e_run ?_ | (refine s_cond (fun h => ?_) (fun _ => ?_); (focus (exfalso; simp only [beq_iff_eq] at h; contradiction))) | (refine e_cond (fun h => ?_) (fun _ => ?_); (focus (exfalso; simp only [beq_iff_eq] at h; contradiction))))
    refine e_reg (g_run 1 ?_)
    refine prg_fz (k := 1) (row := rowI .u64 [0]) (fun i hi => one_rowU i hi) ?_
    refine g_push (xs := xs) (n := n) [0] (by omega) (by simp only [List.length_singleton]; omega) (fun _ => ?_) (fun h => nomatch h)
    refine g_end ?_
    refine s_run ?_
    exact p_ret (fin (vs := [u64 0]) ⟨_, [], _, _, wk [some 0, some 1, some 2, some 6] [] [u64 0] (wP _ _ lvl _) (vals := .cons (.nlv rfl) .nil), dor_p (by simp [stepS, effS, hn, htk, pushL, join2, orU_zero hlvl])⟩)
  by_cases h33 : op = 33
  · subst h33
    obtain ⟨a, rfl⟩ : ∃ a : Nat, A = a := ⟨A.toNat, by have := hlo (.inl rfl); omega⟩
    have ha : a < lo.length := by have := hlo (.inl rfl); omega
    repeat (first | refine s_ass ?_ | refine s_t ?_ | refine s_f ?_ | refine s_skip ?_ | refine s_block ?_ | refine s_run ?_ | refine e_t ?_ | refine e_f ?_ | refine p_skip ?_ | refine p_block ?_ | refine e_run ?_ | (refine s_cond (fun h => ?_) (fun _ => ?_); (focus (exfalso; simp only [beq_iff_eq] at h; contradiction))) | (refine e_cond (fun h => ?_) (fun _ => ?_); (focus (exfalso; simp only [beq_iff_eq] at h; contradiction))))
    refine e_drw (g_run 9 ?_)
    refine prg_fz (k := 1) (row := rowI .u64 [lo.getD a 0]) (fun i hi => one_rowU i hi) ?_
    refine g_push (xs := xs) (n := n) [lo.getD a 0] (by omega) (by simp only [List.length_singleton]; omega) (fun _ => ?_) (fun h => nomatch h)
    refine g_end ?_
    refine s_run ?_
    exact p_ret (fin (vs := [u64 0]) ⟨_, [], _, _, wk [some 0, some 1, some 2, some 6] [] [u64 0] (wP _ _ lvl _) (vals := .cons (.nlv rfl) .nil), dor_p (by simp [stepS, effS, hn, htk, pushL, join2])⟩)
  by_cases h34 : op = 34
  · subst h34
    obtain ⟨a, rfl⟩ : ∃ a : Nat, A = a := ⟨A.toNat, by have := hlo (.inr rfl); omega⟩
    have ha : a < lo.length := by have := hlo (.inr rfl); omega
    obtain ⟨k, rfl⟩ : ∃ k, n = k + 1 := ⟨n - 1, by simp [effS] at hpop; omega⟩
    have hd := drop_1 hn
    repeat (first | refine s_ass ?_ | refine s_t ?_ | refine s_f ?_ | refine s_skip ?_ | refine s_block ?_ | refine s_run ?_ | refine e_t ?_ | refine e_f ?_ | refine p_skip ?_ | refine p_block ?_ | refine e_run ?_ | (refine s_cond (fun h => ?_) (fun _ => ?_); (focus (exfalso; simp only [beq_iff_eq] at h; contradiction))) | (refine e_cond (fun h => ?_) (fun _ => ?_); (focus (exfalso; simp only [beq_iff_eq] at h; contradiction))))
    refine e_drw (x_start (b := 0) (cs := [(1, .vec 1 2 lo.length), (2, u64 lvl)]) ?_ rfl (Nat.succ_pos _) (by simp) ?_)
    · refine x_pop (xs := xs) (k := k) (by omega) (by omega) ?_
      refine x_v ?_
      refine x_v ?_
      refine x_load (off := 2) (v0 := u64 lvl) ?_
      refine x_e ?_ (hne := by unfold wCel; simp) (hm := fun h => nomatch h)
      refine x_fz (k := 2) (row := rowI .u64 [xs.getD k 0, lvl]) (fun i hi => two_rowU i hi) ?_
      refine x_call (join_ok (n := 2) (k := 2) [xs.getD k 0, lvl] rfl (by decide)) ?_
      rintro v rfl
      refine ⟨rfl, ?_⟩
      refine x_v ?_
      refine x_v ?_
      refine x_v ?_
      refine x_load (off := 1) (v0 := .vec 1 2 lo.length) ?_
      refine x_drop ?_
      refine g_end ?_
      refine s_run ?_
      refine p_ret (fin (vs := [u64 0]) ⟨_, [], _, _, wk [some 0, some 1, some 2] [] [u64 0] (wH xs k (lo.set a (joinU [xs.getD k 0, lvl])) lvl true) (vals := .cons (.nlv rfl) .nil) (blks := ?_), dor_w (by omega) (by simp [stepS, effS, hn, hd, join2, orU_comm lvl])⟩)
      unfold wH wCel
      rw [List.length_set]
      exact .cons (.cel rfl (by decide) rfl (.cons (.one (.vec rfl rfl)) (.cons (.one (.vec rfl rfl)) (.cons (.nlv rfl) (.cons (.nlv rfl) .nil))))) (.cons bs_same (.cons (bs_vec rfl fun j hj => row1_set (en := fun n => .s (.int .u64 n)) (d := 0) (u64 _) rfl hj) .nil))
    · intro off v hv
      simp only [List.mem_cons, List.not_mem_nil, or_false, Prod.mk.injEq] at hv
      rcases hv with ⟨rfl, rfl⟩ | ⟨rfl, rfl⟩ <;> exact ⟨rfl, rfl⟩
  by_cases h35 : op = 35
  · subst h35
    obtain ⟨a, rfl⟩ : ∃ a : Nat, A = a := ⟨A.toNat, by have := hgs (.inl rfl); omega⟩
    have ha : a < m.gs.length := by have := hgs (.inl rfl); omega
    repeat (first | refine s_ass ?_ | refine s_t ?_ | refine s_f ?_ | refine s_skip ?_ | refine s_block ?_ | refine s_run ?_ | refine e_t ?_ | refine e_f ?_ | refine p_skip ?_ | refine p_block ?_ | refine e_run ?_ | (refine s_cond (fun h => ?_) (fun _ => ?_); (focus (exfalso; simp only [beq_iff_eq] at h; contradiction))) | (refine e_cond (fun h => ?_) (fun _ => ?_); (focus (exfalso; simp only [beq_iff_eq] at h; contradiction))))
    refine e_reg (g_run 6 ?_)
    rw [getD_pre ha]
    refine g_run 1 ?_
    refine prg_fz (k := 1) (row := rowI .u64 [m.gs.getD a 0]) (fun i hi => one_rowU i hi) ?_
    refine g_push (xs := xs) (n := n) [m.gs.getD a 0] (by omega) (by simp only [List.length_singleton]; omega) (fun _ => ?_) (fun h => nomatch h)
    refine g_end ?_
    refine s_run ?_
    exact p_ret (fin (vs := [u64 0]) ⟨_, [], _, _, wk [some 0, some 1, some 2, some 6] [] [u64 0] (wP _ _ lvl _) (vals := .cons (.nlv rfl) .nil), dor_p (by simp [stepS, effS, hn, htk, pushL, join2])⟩)
  by_cases h36 : op = 36
  · subst h36
    obtain ⟨a, rfl⟩ : ∃ a : Nat, A = a := ⟨A.toNat, by have := hgs (.inr rfl); omega⟩
    have ha : a < m.gs.length := by have := hgs (.inr rfl); omega
    obtain ⟨k, rfl⟩ : ∃ k, n = k + 1 := ⟨n - 1, by simp [effS] at hpop; omega⟩
    have hd := drop_1 hn
    repeat (first | refine s_ass ?_ | refine s_t ?_ | refine s_f ?_ | refine s_skip ?_ | refine s_block ?_ | refine s_run ?_ | refine e_t ?_ | refine e_f ?_ | refine p_skip ?_ | refine p_block ?_ | refine e_run ?_ | (refine s_cond (fun h => ?_) (fun _ => ?_); (focus (exfalso; simp only [beq_iff_eq] at h; contradiction))) | (refine e_cond (fun h => ?_) (fun _ => ?_); (focus (exfalso; simp only [beq_iff_eq] at h; contradiction))))
    refine e_drw (g_pop (xs := xs) (k := k) (by omega) (by omega) ?_)
    refine g_run 6 ?_
    rw [getD_pre ha]
    refine g_need (xs := xs) ?_
    refine g_end ?_
    refine s_run ?_
    exact p_ret (fin (vs := [u64 0]) ⟨_, [], _, _, wk [some 0, some 1, some 2] [] [u64 0] (wH xs k _ lvl _) (vals := .cons (.nlv rfl) .nil), dor_w (by omega) (by simp [stepS, effS, hn, hd, need_eq])⟩)
  by_cases h47 : op = 47
  · subst h47
    obtain ⟨a, rfl⟩ : ∃ a : Nat, A = a := ⟨A.toNat, by have := hch rfl; omega⟩
    have ha : a < m.chans.length := by have := hch rfl; omega
    obtain ⟨k, rfl⟩ : ∃ k, n = k + 1 := ⟨n - 1, by simp [effS] at hpop; omega⟩
    have hd := drop_1 hn
    repeat (first | refine s_ass ?_ | refine s_t ?_ | refine s_f ?_ | refine s_skip ?_ | refine s_block ?_ | refine s_run ?_ | refine e_t ?_ | refine e_f ?_ | refine p_skip ?_ | refine p_block ?_ | refine e_run ?_ | (refine s_cond (fun h => ?_) (fun _ => ?_); (focus (exfalso; simp only [beq_iff_eq] at h; contradiction))) | (refine e_cond (fun h => ?_) (fun _ => ?_); (focus (exfalso; simp only [beq_iff_eq] at h; contradiction))))
    refine e_drw (g_pop (xs := xs) (k := k) (by omega) (by omega) ?_)
    refine g_run 6 ?_
    rw [getD_pre ha]
    refine g_need (xs := xs) ?_
    refine g_end ?_
    refine s_run ?_
    exact p_ret (fin (vs := [u64 0]) ⟨_, [], _, _, wk [some 0, some 1, some 2] [] [u64 0] (wH xs k _ lvl _) (vals := .cons (.nlv rfl) .nil), dor_w (by omega) (by simp [stepS, effS, hn, hd, need_eq])⟩)
  by_cases h37 : op = 37
  · subst h37
    obtain ⟨a, rfl⟩ : ∃ a : Nat, A = a := ⟨A.toNat, by have := har (.inl rfl); omega⟩
    have ha : a < m.arrays.length := by have := har (.inl rfl); omega
    obtain ⟨k, rfl⟩ : ∃ k, n = k + 1 := ⟨n - 1, by simp [effS] at hpop; omega⟩
    have hd := drop_1 hn
    repeat (first | refine s_ass ?_ | refine s_t ?_ | refine s_f ?_ | refine s_skip ?_ | refine s_block ?_ | refine s_run ?_ | refine e_t ?_ | refine e_f ?_ | refine p_skip ?_ | refine p_block ?_ | refine e_run ?_ | (refine s_cond (fun h => ?_) (fun _ => ?_); (focus (exfalso; simp only [beq_iff_eq] at h; contradiction))) | (refine e_cond (fun h => ?_) (fun _ => ?_); (focus (exfalso; simp only [beq_iff_eq] at h; contradiction))))
    refine e_drw (g_pop (xs := xs) (k := k) (by omega) (by omega) ?_)
    refine g_run 7 ?_
    rw [getD_pre ha]
    refine g_run 1 ?_
    refine prg_fz (k := 2) (row := rowI .u64 [xs.getD k 0, (m.arrays.getD a (0, 0)).2]) (fun i hi => two_rowU i hi) ?_
    refine g_call (join_ok (n := 2) (k := 2) [xs.getD k 0, (m.arrays.getD a (0, 0)).2] rfl (by decide)) ?_
    rintro v rfl
    refine ⟨rfl, ?_⟩
    refine g_run 1 ?_
    refine prg_fz (k := 1) (row := rowI .u64 [joinU [xs.getD k 0, (m.arrays.getD a (0, 0)).2]]) (fun i hi => one_rowU i hi) ?_
    refine g_push (xs := xs) (n := k) [joinU [xs.getD k 0, (m.arrays.getD a (0, 0)).2]] (by omega) (by simp only [List.length_singleton]; omega) (fun _ => ?_) (fun h => nomatch h)
    refine g_end ?_
    refine s_run ?_
    exact p_ret (fin (vs := [u64 0]) ⟨_, [], _, _, wk [some 0, some 1, some 2, some 7] [] [u64 0] (wP _ _ lvl _) (vals := .cons (.nlv rfl) .nil), dor_p (by simp [stepS, effS, hn, hd, pushL, join2]; rw [orU_assoc, orU_comm, orU_assoc])⟩)
  by_cases h38 : op = 38
  · subst h38
    obtain ⟨a, rfl⟩ : ∃ a : Nat, A = a := ⟨A.toNat, by have := har (.inr rfl); omega⟩
    have ha : a < m.arrays.length := by have := har (.inr rfl); omega
    obtain ⟨k, rfl⟩ : ∃ k, n = k + 2 := ⟨n - 2, by simp [effS] at hpop; omega⟩
    have hd := drop_2 hn
    repeat (first | refine s_ass ?_ | refine s_t ?_ | refine s_f ?_ | refine s_skip ?_ | refine s_block ?_ | refine s_run ?_ | refine e_t ?_ | refine e_f ?_ | refine p_skip ?_ | refine p_block ?_ | refine e_run ?_ | (refine s_cond (fun h => ?_) (fun _ => ?_); (focus (exfalso; simp only [beq_iff_eq] at h; contradiction))) | (refine e_cond (fun h => ?_) (fun _ => ?_); (focus (exfalso; simp only [beq_iff_eq] at h; contradiction))))
    refine e_drw (g_pop (xs := xs) (k := k + 1) (by omega) (by omega) ?_)
    refine g_pop (xs := xs) (k := k) (by omega) (by omega) ?_
    refine g_run 1 ?_
    refine prg_fz (k := 2) (row := rowI .u64 [xs.getD (k + 1) 0, xs.getD k 0]) (fun i hi => two_rowU i hi) ?_
    refine g_call (join_ok (n := 2) (k := 2) [xs.getD (k + 1) 0, xs.getD k 0] rfl (by decide)) ?_
    rintro v rfl
    refine ⟨rfl, ?_⟩
    refine g_run 7 ?_
    rw [getD_pre ha]
    refine g_need (xs := xs) ?_
    refine g_end ?_
    refine s_run ?_
    exact p_ret (fin (vs := [u64 0]) ⟨_, [], _, _, wk [some 0, some 1, some 2] [] [u64 0] (wH xs k _ lvl _) (vals := .cons (.nlv rfl) .nil), dor_w (by omega) (by simp [stepS, effS, hn, hd, need_eq, join2]; congr 2; rw [orU_assoc lvl]; congr 1; exact orU_comm _ _)⟩)
  by_cases h39 : op = 39
  · subst h39
    obtain ⟨k, rfl⟩ : ∃ k, n = k + 1 := ⟨n - 1, by simp [effS] at hpop; omega⟩
    have hd := drop_1 hn
    repeat (first | refine s_ass ?_ | refine s_t ?_ | refine s_f ?_ | refine s_skip ?_ | refine s_block ?_ | refine s_run ?_ | refine e_t ?_ | refine e_f ?_ | refine p_skip ?_ | refine p_block ?_ | refine e_run ?_ | (refine s_cond (fun h => ?_) (fun _ => ?_); (focus (exfalso; simp only [beq_iff_eq] at h; contradiction))) | (refine e_cond (fun h => ?_) (fun _ => ?_); (focus (exfalso; simp only [beq_iff_eq] at h; contradiction))))
    refine s_reg (g_pop (xs := xs) (k := k) (by omega) (by omega) ?_)
    refine g_end ?_
    refine e_reg (g_run 1 ?_)
    refine prg_fz (k := 2) (row := rowI .u64 [xs.getD k 0, xs.getD k 0]) (fun i hi => two_rowU i hi) ?_
    refine g_push (xs := xs) (n := k) [xs.getD k 0, xs.getD k 0] (by omega) (by simp only [List.length_cons, List.length_nil]; omega) (fun _ => ?_) (fun h => nomatch h)
    refine g_end ?_
    refine s_run ?_
    exact p_ret (fin (vs := [u64 0]) ⟨_, [], _, _, wk [some 0, some 1, some 2, some 6] [] [u64 0] (wP _ _ lvl _) (vals := .cons (.nlv rfl) .nil), dor_p (by simp [stepS, effS, hn, hd, pushL, join2, orU_comm lvl])⟩)
  by_cases h40 : op = 40
  · subst h40
    obtain ⟨k, rfl⟩ : ∃ k, n = k + 2 := ⟨n - 2, by simp [effS] at hpop; omega⟩
    have hd := drop_2 hn
    repeat (first | refine s_ass ?_ | refine s_t ?_ | refine s_f ?_ | refine s_skip ?_ | refine s_block ?_ | refine s_run ?_ | refine e_t ?_ | refine e_f ?_ | refine p_skip ?_ | refine p_block ?_ | refine e_run ?_ | (refine s_cond (fun h => ?_) (fun _ => ?_); (focus (exfalso; simp only [beq_iff_eq] at h; contradiction))) | (refine e_cond (fun h => ?_) (fun _ => ?_); (focus (exfalso; simp only [beq_iff_eq] at h; contradiction))))
    refine e_reg (g_pop (xs := xs) (k := k + 1) (by omega) (by omega) ?_)
    refine g_pop (xs := xs) (k := k) (by omega) (by omega) ?_
    refine g_run 1 ?_
    refine prg_fz (k := 2) (row := rowI .u64 [xs.getD (k + 1) 0, xs.getD k 0]) (fun i hi => two_rowU i hi) ?_
    refine g_push (xs := xs) (n := k) [xs.getD (k + 1) 0, xs.getD k 0] (by omega) (by simp only [List.length_cons, List.length_nil]; omega) (fun _ => ?_) (fun h => nomatch h)
    refine g_end ?_
    refine s_run ?_
    exact p_ret (fin (vs := [u64 0]) ⟨_, [], _, _, wk [some 0, some 1, some 2, some 6] [] [u64 0] (wP _ _ lvl _) (vals := .cons (.nlv rfl) .nil), dor_p (by simp [stepS, effS, hn, hd, pushL, join2])⟩)
  by_cases h41 : op = 41
  · subst h41
    obtain ⟨k, rfl⟩ : ∃ k, n = k + 1 := ⟨n - 1, by simp [effS] at hpop; omega⟩
    have hd := drop_1 hn
    repeat (first | refine s_ass ?_ | refine s_t ?_ | refine s_f ?_ | refine s_skip ?_ | refine s_block ?_ | refine s_run ?_ | refine e_t ?_ | refine e_f ?_ | refine p_skip ?_ | refine p_block ?_ | refine e_run ?_ | (refine s_cond (fun h => ?_) (fun _ => ?_); (focus (exfalso; simp only [beq_iff_eq] at h; contradiction))) | (refine e_cond (fun h => ?_) (fun _ => ?_); (focus (exfalso; simp only [beq_iff_eq] at h; contradiction))))
    refine e_reg (g_pop (xs := xs) (k := k) (by omega) (by omega) ?_)
    refine g_end ?_
    refine s_run ?_
    exact p_ret (fin (vs := [u64 0]) ⟨_, [], _, _, wk [some 0, some 1, some 2] [] [u64 0] (wH xs k _ lvl _) (vals := .cons (.nlv rfl) .nil), dor_w (by omega) (by simp [stepS, effS, hn])⟩)
  by_cases h42 : op = 42
  · subst h42
    repeat (first | refine s_ass ?_ | refine s_t ?_ | refine s_f ?_ | refine s_skip ?_ | refine s_block ?_ | refine s_run ?_ | refine e_t ?_ | refine e_f ?_ | refine p_skip ?_ | refine p_block ?_ | refine e_run ?_ | (refine s_cond (fun h => ?_) (fun _ => ?_); (focus (exfalso; simp only [beq_iff_eq] at h; contradiction))) | (refine e_cond (fun h => ?_) (fun _ => ?_); (focus (exfalso; simp only [beq_iff_eq] at h; contradiction))))
    exact p_ret (fin (vs := [u64 0]) ⟨_, [], _, _, wk [some 0, some 1, some 2] [] [u64 0] (wH xs n _ lvl _) (vals := .cons (.nlv rfl) .nil), dor_w (by omega) (by simp [stepS, effS, hn])⟩)
  by_cases h43 : op = 43
  · subst h43
    repeat (first | refine s_ass ?_ | refine s_t ?_ | refine s_f ?_ | refine s_skip ?_ | refine s_block ?_ | refine s_run ?_ | refine e_t ?_ | refine e_f ?_ | refine p_skip ?_ | refine p_block ?_ | refine e_run ?_ | (refine s_cond (fun h => ?_) (fun _ => ?_); (focus (exfalso; simp only [beq_iff_eq] at h; contradiction))) | (refine e_cond (fun h => ?_) (fun _ => ?_); (focus (exfalso; simp only [beq_iff_eq] at h; contradiction))))
    exact p_ret (fin (vs := [u64 0]) ⟨_, [], _, _, wk [some 0, some 1, some 2] [] [u64 0] (wH xs n _ lvl _) (vals := .cons (.nlv rfl) .nil), dor_w (by omega) (by simp [stepS, effS, hn])⟩)
  by_cases h44 : op = 44
  · subst h44
    obtain ⟨k, rfl⟩ : ∃ k, n = k + 1 := ⟨n - 1, by simp [effS] at hpop; omega⟩
    have hd := drop_1 hn
    repeat (first | refine s_ass ?_ | refine s_t ?_ | refine s_f ?_ | refine s_skip ?_ | refine s_block ?_ | refine s_run ?_ | refine e_t ?_ | refine e_f ?_ | refine p_skip ?_ | refine p_block ?_ | refine e_run ?_ | (refine s_cond (fun h => ?_) (fun _ => ?_); (focus (exfalso; simp only [beq_iff_eq] at h; contradiction))) | (refine e_cond (fun h => ?_) (fun _ => ?_); (focus (exfalso; simp only [beq_iff_eq] at h; contradiction))))
    refine s_drw (x_start (b := 0) (cs := [(1, .vec 1 2 lo.length), (2, u64 lvl)]) ?_ rfl (Nat.succ_pos _) (by simp) ?_)
    · refine x_pop (xs := xs) (k := k) (by omega) (by omega) ?_
      refine x_v ?_
      refine x_v ?_
      refine x_load (off := 2) (v0 := u64 lvl) ?_
      refine x_drop ?_
      refine g_run 1 ?_
      refine prg_fz (k := 2) (row := rowI .u64 [xs.getD k 0, lvl]) (fun i hi => two_rowU i hi) ?_
      refine g_call (join_ok (n := 2) (k := 2) [xs.getD k 0, lvl] rfl (by decide)) ?_
      rintro v rfl
      refine ⟨rfl, ?_⟩
      refine g_end ?_
      refine p_ret ?_
      exact (show retQ c56.res (fun v hp' => ∃ σ fz v2 hp2, Weak [0, 1, 2] σ fz [v] hp' [v2] hp2 ∧ DoR (stepS m f 44 A xs lo lvl) lvl v2 hp2) .ret _ _ from fin (vs := [u64 (joinU [xs.getD k 0, lvl])]) ⟨_, [], _, _, wk [some 0, some 1, some 2] [] [u64 (joinU [xs.getD k 0, lvl])] (wH xs k _ lvl _) (vals := .cons (.nlv rfl) .nil), dor_w (by omega) (by simp [stepS, effS, hn, hd, join2, orU_comm lvl])⟩)
    · intro off v hv
      simp only [List.mem_cons, List.not_mem_nil, or_false, Prod.mk.injEq] at hv
      rcases hv with ⟨rfl, rfl⟩ | ⟨rfl, rfl⟩ <;> exact ⟨rfl, rfl⟩
  by_cases h46 : op = 46
  · subst h46
    obtain ⟨rs, hrs⟩ : ∃ rs, (fnAt m f).rs = rs := ⟨_, rfl⟩
    have hrs' : (m.fns.getD f default).rs = rs := hrs
    obtain ⟨j, hj⟩ : ∃ j, rs.length = j := ⟨_, rfl⟩
    have hE : effS m f 46 A = (((j : Nat) : Int), 0) := by simp [effS, hrs, hj]
    have hjn : j ≤ n := by rw [hE] at hpop; simp only at hpop; omega
    have hpl : (xs.drop (n - j)).length = j := by rw [List.length_drop]; omega
    repeat (first | refine s_ass ?_ | refine s_t ?_ | refine s_f ?_ | refine s_skip ?_ | refine s_block ?_ | refine s_run ?_ | refine e_t ?_ | refine e_f ?_ | refine p_skip ?_ | refine p_block ?_ | refine e_run ?_ | (refine s_cond (fun h => ?_) (fun _ => ?_); (focus (exfalso; simp only [beq_iff_eq] at h; contradiction))) | (refine e_cond (fun h => ?_) (fun _ => ?_); (focus (exfalso; simp only [beq_iff_eq] at h; contradiction))))
    refine s_reg (g_run 3 ?_)
    refine prg_cast (fptr_one (if_pos hfn)) ?_
    refine g_run 3 ?_
    rw [hrs', hj]
    refine g_last (xs := xs) (n := n) (j := j) (by omega) hjn (by omega) ?_
    refine g_end ?_
    refine e_loop (fun i => i ≤ j) (fun i => j - i) (fun i => [.ptr 0 0, lentM m, i64 (f : Nat), .agg [i64 46, i64 A], .ptr 3 0, .ptr 4 0, u64 0, .fn 90 [.ptr 0 0] [], .fn 91 [.ptr 0 0] [], .fn 92 [.ptr 0 0] [], .junk, .junk, .junk, .junk, .junk, .junk, .junk, .junk, .junk, .junk, .junk, .junk, .junk, .junk, .junk, .junk, .junk, .junk, .junk, .junk, .junk, .junk, .junk, .junk, .junk, .junk, .frz 1 j j (rowI .u64 (xs.drop (n - j))), i64 (j : Nat), i64 (i : Nat), .junk, .junk]) (fun i => wH xs (n - j) lo lvl (needF lvl (xs.drop (n - j)) rs i) ++ [.cel [lentU m.gs, lentA m.arrays, lentU m.chans, lentFs m.fns], .cel [i64 46, i64 A]]) 0 (Nat.zero_le _) (wk [some 0, some 1, some 2, some 3, some 4] [] _ _) ?_
    intro i hi
    refine s_run ?_
    refine s_cond (fun h => ?_) (fun h => ?_)
    · simp only [decide_eq_true_eq] at h
      have hij : i < j := by omega
      refine s_skip (s_block (s_run ?_))
      refine e_reg (g_run 3 ?_)
      refine prg_cast (fptr_one (if_pos hfn)) ?_
      refine g_run 4 ?_ (hq := by simp only [in64, and_true, true_and]; rw [hrs']; omega)
      rw [hrs', getD_pre (by omega)]
      refine g_need (xs := xs) ?_
      refine g_end ?_
      refine e_run ?_
      exact lp_next (i + 1) (by omega) (wk [some 0, some 1, some 2, some 3, some 4] [] _ _)
    · simp only [decide_eq_false_iff_not] at h
      have hij : i = j := by omega
      subst hij
      refine s_exit ?_
      have hall := needF_all lvl (xs.drop (n - i)) rs (by omega)
      rw [hpl] at hall
      refine s_run ?_
      exact p_ret (fin (vs := [u64 0]) ⟨_, [], _, _, wk [some 0, some 1, some 2] [] [u64 0] (wH xs (n - i) _ lvl _) (vals := .cons (.nlv rfl) .nil), dor_w (by omega) (by simp [stepS, hE, hn, hall, hrs])⟩)
  by_cases h45 : op = 45
  · subst h45
    obtain ⟨a, rfl⟩ : ∃ a : Nat, A = a := ⟨A.toNat, by have := hca rfl; omega⟩
    have ha : a < m.fns.length := by have := hca rfl; omega
    obtain ⟨g, hg⟩ : ∃ g, fnAt m a = g := ⟨_, rfl⟩
    have hg' : m.fns.getD a default = g := hg
    obtain ⟨j, hj⟩ : ∃ j, g.ps.length = j := ⟨_, rfl⟩
    have hE : effS m f 45 a = (((j : Nat) : Int), ((g.rs.length : Nat) : Int)) := by simp [effS, hg, hj]
    have hjn : j ≤ n := by rw [hE] at hpop; simp only at hpop; omega
    have hpl : (xs.drop (n - j)).length = j := by rw [List.length_drop]; omega
    have hgr : g.rs.length < 17592180000000 := hgs45 a ha g hg
    repeat (first | refine s_ass ?_ | refine s_t ?_ | refine s_f ?_ | refine s_skip ?_ | refine s_block ?_ | refine s_run ?_ | refine e_t ?_ | refine e_f ?_ | refine p_skip ?_ | refine p_block ?_ | refine e_run ?_ | (refine s_cond (fun h => ?_) (fun _ => ?_); (focus (exfalso; simp only [beq_iff_eq] at h; contradiction))) | (refine e_cond (fun h => ?_) (fun _ => ?_); (focus (exfalso; simp only [beq_iff_eq] at h; contradiction))))
    refine s_reg (g_run 5 ?_)
    refine prg_cast (fptr_one (if_pos ha)) ?_
    rw [hg']
    refine g_end ?_
    refine s_ass (s_reg (g_run 3 ?_))
    rw [hj]
    refine g_last (xs := xs) (n := n) (j := j) (by omega) hjn (by omega) ?_
    refine g_end ?_
    refine s_loop (fun i => i ≤ j) (fun i => j - i) (fun i => [.ptr 0 0, lentM m, i64 (f : Nat), .agg [i64 45, i64 (a : Nat)], .ptr 3 0, .ptr 4 0, u64 0, .fn 90 [.ptr 0 0] [], .fn 91 [.ptr 0 0] [], .fn 92 [.ptr 0 0] [], .junk, .ptr 5 0, .junk, .junk, .junk, .junk, .junk, .junk, .junk, .junk, .junk, .junk, .junk, .junk, .junk, .junk, .junk, .junk, .junk, .junk, .junk, .frz 1 j j (rowI .u64 (xs.drop (n - j))), i64 (j : Nat), i64 (i : Nat), .junk, .junk, .junk, .junk, .junk, .junk, .junk]) (fun i => wH xs (n - j) lo lvl (needF lvl (xs.drop (n - j)) g.ps i) ++ [.cel [lentU m.gs, lentA m.arrays, lentU m.chans, lentFs m.fns], .cel [i64 45, i64 (a : Nat)], .cel (lentCells g)]) 0 (Nat.zero_le _) (wk [some 0, some 1, some 2, some 3, some 4, some 5] [] _ _) ?_
    intro i hi
    refine s_run ?_
    refine s_cond (fun h => ?_) (fun h => ?_)
    · simp only [decide_eq_true_eq] at h
      have hij : i < j := by omega
      refine s_skip (s_block (s_run ?_))
      refine e_reg (g_run 4 ?_)
      rw [getD_pre (by omega)]
      refine g_need (xs := xs) ?_
      refine g_end ?_
      refine e_run ?_
      exact lp_next (i + 1) (by omega) (wk [some 0, some 1, some 2, some 3, some 4, some 5] [] _ _)
    · simp only [decide_eq_false_iff_not] at h
      have hij : i = j := by omega
      subst hij
      refine s_exit ?_
      have hall := needF_all lvl (xs.drop (n - i)) g.ps (by omega)
      rw [hpl] at hall
      refine s_reg (g_run 2 ?_)
      refine g_need (xs := xs) ?_
      refine g_end ?_
      have hkp : needB (needF lvl (xs.drop (n - i)) g.ps i) 0 lvl g.lvl = (inU (orU 0 lvl) g.lvl && allIn lvl (xs.drop (n - i)) g.ps) := by unfold needB; rw [hall, join2, Bool.and_comm]
      rw [hkp]
      refine e_reg (g_run 2 ?_)
      refine prg_cast (frz_cast (k' := g.rs.length) (row' := rowI .u64 g.rs) (Nat.le_refl _) (Nat.le_succ _) (fun i hi => by simp only [rowI, getD_pre hi])) ?_
      refine g_push (xs := xs) (n := n - i) g.rs (by omega) (by omega) (fun _ => ?_) (fun h0 => ?_)
      · refine g_end ?_
        refine s_run ?_
        exact p_ret (fin (vs := [u64 0]) ⟨_, [], _, _, wk [some 0, some 1, some 2, some 6] [] [u64 0] (wP _ _ lvl _) (vals := .cons (.nlv rfl) .nil), dor_p (by simp [stepS, hE, hn, hg, pushL, join2])⟩)
      · refine g_end ?_
        refine s_run ?_
        exact p_ret (fin (vs := [u64 0]) ⟨_, [], _, _, wk [some 0, some 1, some 2] [] [u64 0] (wH xs (n - i) _ lvl _) (vals := .cons (.nlv rfl) .nil), dor_w (by omega) (by simp [stepS, hE, hn, hg, h0])⟩)
  have h17 : 1 ≤ op ∧ op ≤ 17 := by omega
  obtain ⟨j, hE, hj2⟩ : ∃ j : Nat, effS m f op A = (((j : Nat) : Int), 1) ∧ j ≤ 2 := by
    by_cases h : op = 15 ∨ op = 16 ∨ op = 17
    · exact ⟨1, by simp [effS, *], by omega⟩
    · exact ⟨2, by simp [effS, *], by omega⟩
  have hjn : j ≤ n := by rw [hE] at hpop; simp only at hpop; omega
  have hpl : (xs.drop (n - j)).length = j := by rw [List.length_drop]; omega
  repeat (first | refine s_ass ?_ | refine s_t ?_ | refine s_f ?_ | refine s_skip ?_ | refine s_block ?_ | refine s_run ?_ | refine e_t ?_ | refine e_f ?_ | refine p_skip ?_ | refine p_block ?_ | refine e_run ?_ | (refine s_cond (fun h => ?_) (fun _ => ?_); (focus (exfalso; simp only [beq_iff_eq] at h; contradiction))) | (refine e_cond (fun h => ?_) (fun _ => ?_); (focus (exfalso; simp only [beq_iff_eq] at h; contradiction))))
  refine s_reg (g_run 2 ?_)
  refine g_call (effect_ok hf hfn op A hca) ?_
  rintro v rfl
  refine ⟨rfl, ?_⟩
  rw [hE]
  refine g_end ?_
  refine e_reg (g_last (xs := xs) (n := n) (j := j) (by omega) hjn (by omega) ?_)
  refine g_call (join_ok (n := j) (k := j) (xs.drop (n - j)) hpl (by omega)) ?_
  rintro v rfl
  refine ⟨rfl, ?_⟩
  refine g_run 1 ?_
  refine prg_fz (k := 1) (row := rowI .u64 [joinU (xs.drop (n - j))]) (fun i hi => one_rowU i hi) ?_
  refine g_push (xs := xs) (n := n - j) [joinU (xs.drop (n - j))] (by omega) (by simp only [List.length_singleton]; omega) (fun _ => ?_) (fun h => nomatch h)
  refine g_end ?_
  refine s_run ?_
  exact p_ret (fin (vs := [u64 0]) ⟨_, [], _, _, wk [some 0, some 1, some 2, some 6] [] [u64 0] (wP _ _ lvl _) (vals := .cons (.nlv rfl) .nil), dor_p (by simp [stepS, hE, hn, pushL, join2, join_lvl hlvl, *])⟩)
end Go.Proofs.Ytollibkfagjnaaa.Shape.Kit
