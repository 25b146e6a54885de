import Derived.Test.YtggaimcopbjdiaaRegRof
import Derived.Test.YtggaimcopbjdiaaTabO
set_option linter.unusedVariables false
set_option linter.unusedSimpArgs false
set_option maxRecDepth 10000
namespace Go.Proofs.Ytggaimcopbjdiaa.Graph
open Go.Proofs.Ytggaimcopbjdiaa.AM Go.Proofs.Ytggaimcopbjdiaa.Post
noncomputable def inQ (code : List (Int × Int)) (a : Int) (b : Nat) : Bool := decide (0 ≤ a) && pB (Reg code b a.toNat)
theorem inQ_iff {code : List (Int × Int)} {a : Int} {b : Nat} : inQ code a b = true ↔ 0 ≤ a ∧ Reg code b a.toNat := by
 unfold inQ
 rw [Bool.and_eq_true, decide_eq_true_eq, pB_iff]
theorem inQ_no {code : List (Int × Int)} {a : Int} {b : Nat} (h : 0 ≤ a → ¬ Reg code b a.toNat) : inQ code a b = false := by
 rw [← Bool.not_eq_true, inQ_iff]
 exact fun q => h q.1 q.2
theorem inB_up {code : List (Int × Int)} {b e i k a : Nat} (hik : i ≤ k) (h : inB code b e i a = true) : inB code b e k a = true := by
 unfold inB at h ⊢
 rw [List.any_eq_true] at h ⊢
 obtain ⟨l, h1, h2⟩ := h
 refine ⟨l, ?_, h2⟩
 obtain ⟨j, hj, e⟩ := List.mem_iff_getElem.1 h1
 rw [List.length_take] at hj
 have hj2 : j < ((nxN code b).take k).length := by rw [List.length_take]; omega
 refine List.mem_iff_getElem.2 ⟨j, hj2, ?_⟩
 rw [List.getElem_take] at e ⊢
 exact e
noncomputable def inV (f : Fn) (a b e : Nat) (x9 : PV) : List PV := [encF f, i64 (a : Nat), i64 (b : Nat), .ptr 0 0, .s (.bool false), i64 (f.code.length : Nat), i64 (e : Nat), .junk, .frz 1 (nxN f.code b).length (nxN f.code b).length (rowI .i64 (natI (nxN f.code b))), x9, .junk, .junk, .junk, .junk, .junk]
theorem rin_ok {f : Fn} (hf : Fit f.code) (hT : TreeR f.code (nrT f.code)) (a : Int) {b : Nat} (hb : b < f.code.length) : PFun E 63 [encF f, i64 a, i64 (b : Nat)] (valQ (isV (.s (.bool (inQ f.code a b))))) := by
 have f1 := hf.len
 refine p_fun ?_
 show PTri E false [] _ [encF f, i64 a, i64 (b : Nat), .junk, .junk, .junk, .junk, .junk, .junk, .junk, .junk, .junk, .junk, .junk, .junk] _ _
 refine s_run ?_
 refine s_run ?_
 refine s_ass (s_reg (g_run 1 ?_))
 refine prg_split (fun h1 => ?_) (fun h1 => ?_)
 ·simp only [decide_eq_true_eq] at h1
  rw [inQ_no fun h => by omega]
  refine g_end ?_
  refine s_t (s_ass (s_run ?_))
  exact s_ret fin_v
 simp only [decide_eq_false_iff_not] at h1
 obtain ⟨a, rfl⟩ : ∃ c : Nat, a = c := ⟨a.toNat, by omega⟩
 refine g_run 3 ?_
 refine prg_split (fun h2 => ?_) (fun h2 => ?_)
 ·simp only [ge_iff_le, decide_eq_true_eq] at h2
  rw [inQ_no fun _ q => by
   rw [Int.toNat_natCast] at q
   have := reg_lt q
   omega]
  refine g_end ?_
  refine s_t (s_ass (s_run ?_))
  exact s_ret fin_v
 simp only [ge_iff_le, decide_eq_false_iff_not] at h2
 have han : a < f.code.length := by omega
 have hQ : inQ f.code (a : Nat) b = pB (Reg f.code b a) := by
  unfold inQ
  rw [decide_eq_true (by omega), Int.toNat_natCast, Bool.true_and]
 rw [hQ]
 refine g_run 3 ?_
 refine prg_head (v' := .s (.bool false)) (by rw [decide_eq_false (by omega)]) ?_
 refine g_run 4 ?_
 refine prg_head (v' := .s (.bool false)) (by rw [decide_eq_false (by omega)]) ?_
 refine g_end ?_
 refine s_f (s_skip ?_)
 refine s_reg (g_run 1 ?_)
 refine g_call (rnear_ok hf hT hb) ?_
 rintro v rfl
 unfold nearD
 cases hn : nrT f.code b with
 | none =>
   refine ⟨rfl, ?_⟩
   refine g_end ?_
   refine s_ass (s_run ?_)
   refine s_t ?_
   refine s_ass (s_run ?_)
   have hno : pB (Reg f.code b a) = false := by
    rw [← Bool.not_eq_true, pB_iff]
    rintro ⟨_, e, he, _⟩
    rw [hn] at he; cases he
   rw [hno]
   exact s_ret fin_v
 | some e =>
   refine ⟨rfl, ?_⟩
   have hex : e < f.code.length + 1 := by
    have hex : Ex f.code b := (hT.sm b).1 (by rw [hn]; rfl)
    exact ex_lt (hT.step hex (by omega) hn).2.1
   refine g_end ?_
   refine s_ass (s_run ?_)
   refine s_f (s_skip ?_)
   refine s_reg (g_run 1 ?_)
   refine g_call (rnext_ok hf (b : Nat)) ?_
   rintro v rfl
   refine ⟨rfl, ?_⟩
   rw [← next_nat]
   unfold encI
   rw [natI_len]
   refine g_end ?_
   have hnl : (nxN f.code b).length ≤ 2 := by rw [← natI_len, next_nat]; exact nextI_len _ _
   refine s_ass (s_run ?_)
   refine s_loop (ι := Nat) (fun i => i ≤ (nxN f.code b).length ∧ inB f.code b e i a = false) (fun i => (nxN f.code b).length - i) (fun i => inV f a b e (i64 (i : Nat))) (fun i => [.cel (cellsF f)]) 0 ⟨Nat.zero_le _, by unfold inB; rfl⟩ (σ := [some 0]) (fz := []) (wk _ [] _ _ (vals := ?_) (blks := .cons bs_cel .nil)) ?_
   ·try dsimp only [inV]
    repeat' (first | exact VSubs.nil | apply VSubs.cons | exact VSub.one (VSub1.junk _) | exact VSub.nlv rfl | exact VSub.one (VSub1.ptr rfl))
   rintro i ⟨hi, hno⟩
   unfold inV
   refine s_ass (s_run ?_)
   refine s_cond (fun h3 => ?_) (fun h3 => ?_)
   ·simp only [decide_eq_true_eq] at h3
    obtain ⟨l, hl⟩ : ∃ l, (nxN f.code b)[i]? = some l := ⟨_, List.getElem?_eq_getElem (by omega)⟩
    have hlm := nx_lt (List.mem_of_getElem? hl)
    refine s_skip (s_block ?_)
    refine s_drw (g_run 3 ?_)
    refine prg_head (nat_at hl) ?_
    refine g_call (rwithout_ok hf (l : Nat) (e : Nat) (by unfold in64; omega) (by unfold in64; omega)) ?_
    rintro v rfl
    refine ⟨rfl, ?_⟩
    unfold encB
    rw [withoutA_len]
    refine g_end ?_
    have hsu := inB_succ (e := e) (a := a) hl
    obtain ⟨W, hW⟩ : ∃ W, withoutL f.code (l : Nat) (e : Nat) = W := ⟨_, rfl⟩
    rw [hW] at hsu ⊢
    rw [hno, Bool.false_or] at hsu
    refine s_run ?_
    refine e_cond (fun h4 => ?_) (fun h4 => ?_)
    ·have hyes : pB (Reg f.code b a) = true := by
      rw [← in_reg (e := e) hb hn han (Nat.le_refl _)]
      exact inB_up (i := i + 1) (by omega) (hsu.trans h4)
     rw [hyes]
     refine s_run ?_
     exact p_ret fin_v
    ·refine p_skip (e_run ?_)
     refine lp_next (i + 1) ⟨by omega, hsu.trans h4⟩ (σ := [some 0]) (fz := []) (wk _ [] _ _ (vals := ?_) (blks := .cons bs_cel .nil))
     try dsimp only [inV]
     repeat' (first | exact VSubs.nil | apply VSubs.cons | exact VSub.one (VSub1.junk _) | exact VSub.nlv rfl | exact VSub.one (VSub1.ptr rfl))
   simp only [decide_eq_false_iff_not] at h3
   refine s_exit ?_
   have hno' : pB (Reg f.code b a) = false := by rw [← in_reg (e := e) (i := i) hb hn han (by omega)]; exact hno
   rw [hno']
   refine s_run ?_
   exact p_ret fin_v
theorem govI_succ {code : List (Int × Int)} {a : Int} {k : Nat} : govI code a (k + 1) = if inQ code a k = true then govI code a k ++ [k] else govI code a k := by
 simp only [govI]
 by_cases h : 0 ≤ a ∧ Reg code k a.toNat
 ·rw [if_pos h, if_pos (inQ_iff.2 h)]
 ·rw [if_neg h, if_neg fun w => h (inQ_iff.1 w)]
noncomputable def gvV (f : Fn) (a : Int) (x4 x5 : PV) : List PV := [encF f, i64 a, .ptr 0 0, .junk, x4, x5, .junk, .junk]
theorem rgov_ok {f : Fn} (hf : Fit f.code) (hT : TreeR f.code (nrT f.code)) (a : Int) : PFun E 51 [encF f, i64 a] (valQ (isV (encI (natI (govI f.code a f.code.length))))) := by
 have f1 := hf.len
 refine p_fun ?_
 show PTri E false [] _ [encF f, i64 a, .junk, .junk, .junk, .junk, .junk, .junk] _ _
 refine s_run ?_
 refine s_run ?_
 refine s_ass (s_run ?_)
 refine s_loop (ι := Nat) (fun k => k ≤ f.code.length) (fun k => f.code.length - k) (fun k => gvV f a (.vec 1 1 (govI f.code a k).length) (i64 (k : Nat))) (fun k => [.cel (cellsF f), .vec 1 (govI f.code a k).length (rowI .i64 (natI (govI f.code a k))) false]) 0 (Nat.zero_le _) (σ := [some 0, none]) (fz := []) ?_ ?_
 ·have h0 : govI f.code a 0 = [] := rfl
  show Weak _ _ _ _ _ (gvV f a (.vec 1 1 (govI f.code a 0).length) (i64 ((0 : Nat) : Int))) [.cel (cellsF f), .vec 1 (govI f.code a 0).length (rowI .i64 (natI (govI f.code a 0))) false]
  rw [h0]
  refine wk _ [] _ _ (vals := ?_) (blks := .cons bs_cel (.cons (.nil rfl) .nil))
  try dsimp only [gvV]
  repeat' (first | exact VSubs.nil | apply VSubs.cons | exact VSub.one (VSub1.junk _) | exact VSub.one (VSub1.nil rfl) | exact VSub.nlv rfl | exact VSub.one (VSub1.ptr rfl))
 intro k hk
 have hgl := govI_len (code := f.code) (a := a) (k := k)
 unfold gvV
 refine s_ass (s_run ?_)
 refine s_cond (fun h2 => ?_) (fun h2 => ?_)
 ·simp only [decide_eq_true_eq] at h2
  refine s_skip (s_block ?_)
  refine s_reg (g_run 1 ?_)
  refine g_call (rin_ok hf hT a (b := k) (by omega)) ?_
  rintro v rfl
  refine ⟨rfl, ?_⟩
  refine g_end ?_
  have hsu := govI_succ (code := f.code) (a := a) (k := k)
  refine e_cond (fun h3 => ?_) (fun h3 => ?_)
  ·rw [if_pos h3] at hsu
   refine e_run (hq := by simp only [room, true_and, and_true]; omega) ?_
   refine e_run ?_
   refine lp_next (k + 1) (by omega) (σ := [some 0, some 3]) (fz := []) ?_
   show Weak _ _ _ _ _ (gvV f a (.vec 1 1 (govI f.code a (k + 1)).length) (i64 ((k + 1 : Nat) : Int))) [.cel (cellsF f), .vec 1 (govI f.code a (k + 1)).length (rowI .i64 (natI (govI f.code a (k + 1)))) false]
   rw [hsu, List.length_append, List.length_singleton]
   refine wk _ [] _ _ (vals := ?_) (blks := .cons bs_cel (.cons (.vec rfl (by simp) rfl (Nat.le_refl _) (fun h => nomatch h) fun i hi => ?_) .nil))
   ·try dsimp only [gvV]
    repeat' (first | exact VSubs.nil | apply VSubs.cons | exact VSub.one (VSub1.junk _) | exact VSub.nlv rfl | exact VSub.one (VSub1.ptr rfl) | exact VSub.one (VSub1.vec rfl rfl))
   ·rw [natI_snoc]
    have := row1_push (en := i64) (d := 0) (x := ((k : Nat) : Int)) (xs := natI (govI f.code a k)) (i := i) (by rw [natI_len]; simpa using hi)
    rw [natI_len] at this
    exact this
  ·rw [if_neg (by rw [h3]; simp)] at hsu
   refine p_skip ?_
   refine e_run ?_
   refine lp_next (k + 1) (by omega) (σ := [some 0, some 1]) (fz := []) ?_
   show Weak _ _ _ _ _ (gvV f a (.vec 1 1 (govI f.code a (k + 1)).length) (i64 ((k + 1 : Nat) : Int))) [.cel (cellsF f), .vec 1 (govI f.code a (k + 1)).length (rowI .i64 (natI (govI f.code a (k + 1)))) false]
   rw [hsu]
   refine wk _ [] _ _ (vals := ?_) (blks := .cons bs_cel (.cons bs_same .nil))
   try dsimp only [gvV]
   repeat' (first | exact VSubs.nil | apply VSubs.cons | exact VSub.one (VSub1.junk _) | exact VSub.nlv rfl | exact VSub.one (VSub1.ptr rfl) | exact VSub.one (VSub1.vec rfl rfl))
 simp only [decide_eq_false_iff_not] at h2
 have hkl : k = f.code.length := by omega
 subst hkl
 refine s_exit ?_
 refine s_run ?_
 refine p_ret (fin_z [1] rfl ?_)
 rintro v rfl
 exact .one (.vecf (.head _) rfl (natI_len _).symm (Nat.le_refl _) (Nat.le_of_eq (natI_len _)) fun i hi => rfl)
end Go.Proofs.Ytggaimcopbjdiaa.Graph
