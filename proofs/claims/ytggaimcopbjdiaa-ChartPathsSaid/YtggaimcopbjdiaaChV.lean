import Derived.Test.YtggaimcopbjdiaaRegOf
import Derived.Test.YtggaimcopbjdiaaPostMk
import Derived.Test.YtggaimcopbjdiaaChR
import Derived.Test.YtggaimcopbjdiaaTabC
import Derived.Test.YtggaimcopbjdiaaTabP
import Derived.Test.YtggaimcopbjdiaaGraphP
import Derived.Test.YtggaimcopbjdiaaTabE
import Derived.Test.YtggaimcopbjdiaaRegOpen
set_option linter.unusedVariables false
set_option linter.unusedSimpArgs false
set_option maxRecDepth 10000
namespace Go.Proofs.Ytggaimcopbjdiaa.Graph
open Go.Proofs.Ytggaimcopbjdiaa.AM Go.Proofs.Ytggaimcopbjdiaa.Post
noncomputable def colF (code : List (Int × Int)) : List Int := colN (fun b => ofL code b) (code.length + 1) code.length
theorem ofL_nodup (code : List (Int × Int)) (b : Nat) : (ofL code b).Nodup := of_nodup
theorem ofL_lt {code : List (Int × Int)} {b a : Nat} (h : a ∈ ofL code b) : a < code.length := (of_mem.1 h).1
theorem colF_len (code : List (Int × Int)) : (colF code).length = code.length + 1 := colN_len _ _ _
theorem colF_at (code : List (Int × Int)) (j : Nat) : 0 ≤ (colF code).getD j 0 ∧ (colF code).getD j 0 ≤ code.length :=
 colN_at (fun b => ofL_nodup code b) (fun b a h => by have := ofL_lt h; omega) _ j
theorem colB_snoc (os : List Nat) (l : List Int) (a : Nat) : colB (os ++ [a]) l = incAt (colB os l) a := by
 unfold colB
 rw [List.foldl_append]; rfl
def cT (f : Fn) (x3 x4 x5 x6 x7 x9 x10 x11 : PV) : List PV := [.junk, .fptr 6 1 (fun _ => cellsF f) 0 0, .s (.slice none 0 0), x3, x4, x5, x6, x7, .junk, x9, x10, x11, .junk]
theorem columnsT_ok {f : Fn} (hf : Fit f.code) (h25 : f.code.length ≤ 25) : PFun E 24 [encF f] (valQ fun v => (0 < f.code.length → TreeR f.code (nrT f.code)) ∧ v = encI (colF f.code)) := by
 obtain ⟨n, hn⟩ : ∃ n, f.code.length = n := ⟨_, rfl⟩
 have hn' := hn
 refine p_fun ?_
 show PTri E false [] _ [encF f, .junk, .junk, .junk, .junk, .junk, .junk, .junk, .junk, .junk, .junk, .junk, .junk] _ _
 refine s_run ?_
 refine p_weak [] [0] (T' := cT f .junk .junk .junk .junk .junk .junk .junk .junk) (hp' := []) (wk _ _ _ _ (vals := ?_)) ?_
 ·refine .cons (.one (.junk _)) (.cons (.one ?_) (.cons (.nlv rfl) ?_))
  ·exact .ptrf (.head _) rfl (by omega) rfl (by simp [cellsF]) rfl fun j hj => by
    have : j = 0 := by omega
    subst this; rfl
  ·repeat' (first | exact VSubs.nil | apply VSubs.cons | exact VSub.one (VSub1.junk _))
 unfold cT
 refine s_reg (g_run 4 ?_)
 refine prg_head (v' := i64 (n + 1 : Nat)) (by rw [← hn]; rfl) ?_
 refine prg_mkx (n := n + 1) rfl rfl rfl (by omega) ?_
 refine g_end ?_
 refine s_ass (s_run ?_)
 obtain ⟨os, hos⟩ : ∃ os : Nat → List Nat, os = fun b => ofL f.code b := ⟨_, rfl⟩
 have hcf : colF f.code = colN os (n + 1) n := by unfold colF; rw [hn, hos]
 rw [hcf]
 refine s_loop (ι := Nat) (fun b => b ≤ n ∧ (0 < b → TreeR f.code (nrT f.code))) (fun b => n - b) (fun b => cT f (.exv 1 0 (n + 1)) .junk .junk (i64 (n : Nat)) (i64 (b : Nat)) .junk .junk .junk) (fun b => [.vec 1 (n + 1) (rowI .i64 (colN os (n + 1) b)) true]) 0 ⟨Nat.zero_le _, fun h => absurd h (Nat.lt_irrefl _)⟩ (σ := [some 0]) (fz := []) (wk _ _ _ _ (vals := ?_) (blks := .cons (bs_vec rfl fun j hj => ?_) .nil)) ?_
 ·(try dsimp only [cT])
  repeat' (first | exact VSubs.nil | apply VSubs.cons | exact VSub.one (VSub1.junk _) | exact VSub.nlv rfl | (rw [hn]; exact VSub.nlv rfl) | exact VSub.one (VSub1.exv rfl rfl))
 ·show [i64 0] = rowI .i64 (List.replicate (n + 1) 0) j
  simp only [rowI, List.getD_eq_getElem?_getD, List.getElem?_replicate]
  rw [if_pos hj]; rfl
 rintro b ⟨hb, hbT⟩
 unfold cT
 refine s_run ?_
 refine s_cond (fun h => ?_) (fun h => ?_)
 rotate_left
 ·simp only [decide_eq_false_iff_not] at h
  have hbn : b = n := by omega
  subst hbn
  refine s_exit ?_
  refine s_run ?_
  have hl : (colN os (b + 1) b).length = b + 1 := colN_len _ _ _
  refine p_weak [] [0] (T' := [.junk, .junk, encI (colN os (b + 1) b), .junk, .junk, .junk, .junk, .junk, .junk, .junk, .junk, .junk, .junk]) (hp' := []) (wk _ _ _ _ (vals := ?_)) ?_
  ·refine .cons (.one (.junk _)) (.cons (.one (.junk _)) (.cons (.one ?_) ?_))
   ·exact .exvf (.head _) rfl hl.symm (Nat.le_refl _) fun _ _ => rfl
   ·repeat' (first | exact VSubs.nil | apply VSubs.cons | exact VSub.one (VSub1.junk _))
  exact p_ret (fin_r (R := fun v => (0 < f.code.length → TreeR f.code (nrT f.code)) ∧ v = encI (colN os (b + 1) b)) ⟨fun h => hbT (by omega), rfl⟩)
 simp only [decide_eq_true_eq] at h
 have hbn : b < n := by omega
 refine s_skip (s_block ?_)
 refine s_run ?_
 refine s_reg (g_run 1 ?_)
 refine g_call (of_ok hf (by omega) (b := b) (by omega)) ?_
 rintro v ⟨hT, rfl⟩
 refine ⟨rfl, ?_⟩
 have eos : ofL f.code b = os b := by rw [hos]
 rw [eos]
 obtain ⟨m, hm⟩ : ∃ m, (os b).length = m := ⟨_, rfl⟩
 unfold encI
 rw [natI_len, hm]
 refine g_end ?_
 have hlt : ∀ a, a ∈ os b → a < n := fun a ha => by rw [← eos] at ha; have := ofL_lt ha; omega
 have hml : m ≤ n := by
  rw [← hm]
  exact nodup_lt (by rw [← eos]; exact ofL_nodup _ _) hlt
 refine e_loop (ι := Nat) (fun k => k ≤ m) (fun k => m - k) (fun k => cT f (.exv 1 0 (n + 1)) .junk .junk (i64 (n : Nat)) (i64 (b : Nat)) (.frz 1 m m (rowI .i64 (natI (os b)))) (i64 (m : Nat)) (i64 (k : Nat))) (fun k => [.vec 1 (n + 1) (rowI .i64 (colB ((os b).take k) (colN os (n + 1) b))) true]) 0 (Nat.zero_le _) (σ := [some 0]) (fz := []) (wk _ _ _ _ (vals := ?_) (blks := .cons (bs_vec rfl fun j hj => rfl) .nil)) ?_
 ·(try dsimp only [cT])
  repeat' (first | exact VSubs.nil | apply VSubs.cons | exact VSub.one (VSub1.junk _) | exact VSub.nlv rfl | (rw [hn]; exact VSub.nlv rfl) | exact VSub.one (VSub1.exv rfl rfl))
 intro k hk
 unfold cT
 refine s_run ?_
 refine s_cond (fun h2 => ?_) (fun h2 => ?_)
 ·simp only [decide_eq_true_eq] at h2
  have hkm : k < m := by omega
  have hkl : k < (os b).length := by omega
  obtain ⟨a, ha⟩ : ∃ a, (os b)[k]? = some a := ⟨_, List.getElem?_eq_getElem hkl⟩
  have han : a < n := hlt a (List.mem_of_getElem? ha)
  have hna : (natI (os b)).getD k 0 = ((a : Nat) : Int) := by
   unfold natI
   rw [List.getD_eq_getElem?_getD, List.getElem?_map, ha]; rfl
  have htk : (os b).take (k + 1) = (os b).take k ++ [a] := by rw [List.take_add_one, ha]; rfl
  obtain ⟨cur, hcur⟩ : ∃ cur, colB ((os b).take k) (colN os (n + 1) b) = cur := ⟨_, rfl⟩
  have hcl : cur.length = n + 1 := by rw [← hcur, colB_len, colN_len]
  rw [hcur]
  refine s_skip (s_block ?_)
  refine s_reg (g_run 2 ?_)
  rw [hna]
  refine g_end ?_
  have hca : 0 ≤ cur.getD a 0 ∧ cur.getD a 0 ≤ n + 1 := by
   have := colB_at ((os b).take k) (colN os (n + 1) b) ((List.take_sublist _ _).nodup (by rw [← eos]; exact ofL_nodup _ _)) (fun x hx => by rw [colN_len]; have := hlt x (List.mem_of_mem_take hx); omega) a
   rw [hcur] at this
   have q := colN_at (os := os) (n := n + 1) (fun b => by rw [hos]; exact ofL_nodup _ _) (fun b a h => by rw [hos] at h; have := ofL_lt h; omega) b a
   have e1 : (if a ∈ (os b).take k then (1 : Int) else 0) ≤ 1 := by split <;> omega
   omega
  refine e_run ?_ (hq := by simp only [true_and, and_true, in64]; omega)
  refine e_run ?_
  refine lp_next (k + 1) (by omega) (σ := [some 0]) (fz := []) (wk _ _ _ _ (vals := ?_) (blks := .cons (bs_vec rfl fun j hj => ?_) .nil))
  ·(try dsimp only [cT])
   repeat' (first | exact VSubs.nil | apply VSubs.cons | exact VSub.one (VSub1.junk _) | exact VSub.nlv rfl | (rw [hn]; exact VSub.nlv rfl) | exact VSub.one (VSub1.exv rfl rfl))
  ·rw [htk, colB_snoc, hcur]
   exact row1_set (en := fun b => .s (.int .i64 b)) (d := 0) (xs := cur) (c := a) (x := cur.getD a 0 + 1) _ rfl (by omega)
 ·simp only [decide_eq_false_iff_not] at h2
  have hkm : k = m := by omega
  subst hkm
  rw [List.take_of_length_le (by omega)]
  refine s_exit ?_
  refine e_run ?_
  refine lp_next (b + 1) ⟨by omega, fun _ => hT⟩ (σ := [some 0]) (fz := []) (wk _ _ _ _ (vals := ?_) (blks := .cons (bs_vec rfl fun j hj => rfl) .nil))
  (try dsimp only [cT])
  repeat' (first | exact VSubs.nil | apply VSubs.cons | exact VSub.one (VSub1.junk _) | exact VSub.nlv rfl | (rw [hn]; exact VSub.nlv rfl) | exact VSub.one (VSub1.exv rfl rfl))
end Go.Proofs.Ytggaimcopbjdiaa.Graph
namespace Go.Proofs.Ytggaimcopbjdiaa.Graph
open Go.Proofs.Ytggaimcopbjdiaa.AM Go.Proofs.Ytggaimcopbjdiaa.Post
def cpl (z : Nat × Nat) : PV := .s (.complex .f64 z.1 z.2)
def rowZ (l : List (Nat × Nat)) : Nat → List PV := row1 cpl (0, 0) l
def encZ (l : List (Nat × Nat)) : PV := .frz 1 l.length l.length (rowZ l)
theorem at_ok {c a : Int} (h1 : -9223372036854775807 ≤ a) (h2 : a ≤ 9223372036854775807) : PFun E 25 [i64 c, i64 a] (valQ (isV (cpl (zb c, zb (-a))))) := by
 refine p_fun ?_
 show PTri E false [] _ [i64 c, i64 a, .junk] _ _
 refine s_run ?_
 refine s_reg ?_
 refine prg_flat (v := .float .f64 (zb c)) rfl rfl rfl (flat_conv Try.underlying3 Try.underlying33 c) ?_
 refine prg_flat (v := .int .i64 (-a)) rfl rfl rfl (flat_ineg h1 h2) ?_
 refine prg_flat (v := .float .f64 (zb (-a))) rfl rfl rfl (flat_conv Try.underlying3 Try.underlying33 (-a)) ?_
 refine prg_flat (v := .complex .f64 (zb c) (zb (-a))) rfl rfl rfl flat_cplx ?_
 refine g_end ?_
 exact p_ret fin_v
end Go.Proofs.Ytggaimcopbjdiaa.Graph
namespace Go.Proofs.Ytggaimcopbjdiaa.Graph
open Go.Proofs.Ytggaimcopbjdiaa.AM Go.Proofs.Ytggaimcopbjdiaa.Post
theorem getD_map {α β : Type} {l : List α} {g : α → β} {i : Nat} (hi : i < l.length) (a : α) (b : β) : (l.map g).getD i b = g (l.getD i a) := by
 rw [List.getD_eq_getElem?_getD, List.getD_eq_getElem?_getD, List.getElem?_map, List.getElem?_eq_getElem hi]; rfl
end Go.Proofs.Ytggaimcopbjdiaa.Graph
namespace Go.Proofs.Ytggaimcopbjdiaa.Graph
open Go.Proofs.Ytggaimcopbjdiaa.AM Go.Proofs.Ytggaimcopbjdiaa.Post
theorem flat_imin {ts : Array TypeId} {t : TypeId} (a b : Int) : aflat Try.prog (.min ts t) [.int .i64 a, .int .i64 b] = some (.int .i64 (min a b)) := by
 have : min a b = if b < a then b else a := by
  by_cases h : b < a
  ·rw [if_pos h]; omega
  ·rw [if_neg h]; omega
 rw [this]; rfl
theorem flat_imax {ts : Array TypeId} {t : TypeId} (a b : Int) : aflat Try.prog (.max ts t) [.int .i64 a, .int .i64 b] = some (.int .i64 (max a b)) := by
 have : max a b = if a < b then b else a := by
  by_cases h : a < b
  ·rw [if_pos h]; omega
  ·rw [if_neg h]; omega
 rw [this]; rfl
def maxN (g : Nat → Int) : Nat → Int
 | 0 => g 0
 | k + 1 => max (maxN g k) (g (k + 1))
theorem max_ok {m k : Nat} {row : Nat → List PV} {g : Nat → Int} (h0 : 0 < m) (hm : m < 1000000) (hr : ∀ j, j < m → row j = [i64 (g j)]) : PFun E 50 [.frz 1 m k row] (valQ (isV (i64 (maxN g (m - 1))))) := by
 refine p_fun ?_
 show PTri E false [] _ [.frz 1 m k row, .junk, .junk, .junk, .junk, .junk] _ _
 refine s_run ?_
 refine s_ass (s_reg (g_run 2 ?_))
 refine prg_head (v' := .s (.bool false)) (congrArg (fun b => PV.s (.bool b)) (decide_eq_false (by omega))) ?_
 refine g_end ?_
 refine s_f (s_skip ?_)
 refine s_reg (g_run 1 ?_)
 refine prg_v (v := i64 (g 0)) (q := True) (by simp only [pval, psev, List.getElem?_cons_zero, pload, hr 0 h0]; rfl) ?_ trivial rfl
 refine g_end ?_
 refine s_ass (s_run ?_)
 refine s_loop (ι := Nat) (fun j => j + 1 ≤ m) (fun j => m - j) (fun j => [.frz 1 m k row, i64 0, i64 (maxN g j), i64 ((j + 1 : Nat) : Int), .junk, .junk]) (fun _ => []) 0 (by omega) (σ := []) (fz := []) (wk _ _ _ _) ?_
 intro j hj
 refine s_ass (s_run ?_)
 refine s_cond (fun h => ?_) (fun h => ?_)
 ·simp only [decide_eq_true_eq] at h
  have hjm : j + 1 < m := by omega
  refine s_skip (s_block ?_)
  refine e_reg (g_run 1 ?_)
  refine prg_v (v := i64 (g (j + 1))) (q := True) (by simp only [pval, psev, List.getElem?_cons_zero, pload, hr (j + 1) hjm]; rfl) ?_ trivial rfl
  refine prg_flat (v := .int .i64 (max (maxN g j) (g (j + 1)))) rfl rfl rfl (flat_imax _ _) ?_
  refine g_end ?_
  refine e_run ?_
  exact lp_next (j + 1) (by omega) (σ := []) (fz := []) (wk _ _ _ _)
 ·simp only [decide_eq_false_iff_not] at h
  have hjm : j = m - 1 := by omega
  subst hjm
  refine s_exit ?_
  refine s_run ?_
  exact p_ret fin_v
theorem contains_ok {l : List Int} (hl : l.length < 1000000) (x : Int) : PFun E 29 [encI l, i64 x] (valQ (isV (.s (.bool (decide (x ∈ l)))))) := by
 have hidx : PFun E 49 [encI l, i64 x] (valQ fun v => ∃ i : Int, v = i64 i ∧ (0 ≤ i ↔ x ∈ l)) := by
  refine p_fun ?_
  show PTri E false [] _ [encI l, i64 x, .junk, .junk, .junk, .junk, .junk, .junk] _ _
  refine s_run ?_
  refine s_ass (s_run ?_)
  refine s_loop (ι := Nat) (fun k => k ≤ l.length ∧ ∀ j, j < k → l.getD j 0 ≠ x) (fun k => l.length - k) (fun k => [encI l, i64 x, i64 0, .junk, i64 (l.length : Nat), i64 (k : Nat), .junk, .junk]) (fun _ => []) 0 ⟨Nat.zero_le _, fun j hj => absurd hj (Nat.not_lt_zero _)⟩ (σ := []) (fz := []) (wk _ _ _ _) ?_
  rintro k ⟨hk, hno⟩
  refine s_run ?_
  refine s_cond (fun h => ?_) (fun h => ?_)
  ·simp only [decide_eq_true_eq] at h
   have hkl : k < l.length := by omega
   refine s_skip (s_block ?_)
   refine s_run ?_
   refine s_run ?_
   refine e_cond (fun h2 => ?_) (fun h2 => ?_)
   ·have hx : x = l.getD k 0 := by simpa using h2
    refine s_run ?_
    refine p_ret (fin_r (R := fun v => ∃ i : Int, v = i64 i ∧ (0 ≤ i ↔ x ∈ l)) ⟨(k : Nat), rfl, fun _ => ?_, fun _ => by omega⟩)
    rw [hx, List.getD_eq_getElem?_getD, List.getElem?_eq_getElem hkl]
    exact List.getElem_mem _
   ·have hx : x ≠ l.getD k 0 := by simpa using h2
    refine p_skip (e_run ?_)
    refine lp_next (k + 1) ⟨by omega, fun j hj => ?_⟩ (σ := []) (fz := []) (wk _ _ _ _)
    by_cases e : j = k
    ·subst e; exact fun h => hx h.symm
    ·exact hno j (by omega)
  ·simp only [decide_eq_false_iff_not] at h
   refine s_exit ?_
   refine s_run ?_
   refine p_ret (fin_r (R := fun v => ∃ i : Int, v = i64 i ∧ (0 ≤ i ↔ x ∈ l)) ⟨-1, rfl, fun h => by omega, fun hx => ?_⟩)
   obtain ⟨j, hj, e⟩ := List.mem_iff_getElem.1 hx
   exact absurd (by rw [List.getD_eq_getElem?_getD, List.getElem?_eq_getElem hj, e]; rfl) (hno j (by omega))
 refine p_fun ?_
 show PTri E false [] _ [encI l, i64 x, .junk] _ _
 refine s_run ?_
 refine s_reg ?_
 refine g_call hidx ?_
 rintro v ⟨i, rfl, hi⟩
 refine ⟨rfl, ?_⟩
 refine g_run 1 ?_
 refine prg_head (v' := .s (.bool (decide (x ∈ l)))) (congrArg (fun b => PV.s (.bool b)) (by
  by_cases h : x ∈ l
  ·rw [decide_eq_true h]; exact decide_eq_true (hi.2 h)
  ·rw [decide_eq_false h]; exact decide_eq_false fun q => h (hi.1 q))) ?_
 refine g_end ?_
 exact p_ret fin_v
def rrI (cols : List Int) (a b : Nat) : Int := 1 + maxN (fun j => cols.getD (min a b + j) 0) (max a b - min a b)
def plcP (cols : List Int) (a : Nat) : Int × Int := (cols.getD a 0, -(a : Int))
def zP (p : Int × Int) : Nat × Nat := (zb p.1, zb p.2)
def ptsI (cols : List Int) (a b : Nat) : List (Int × Int) := if b = a + 1 then [plcP cols a, plcP cols b] else [plcP cols a, (rrI cols a b, -(a : Int)), (rrI cols a b, -(b : Int)), plcP cols b]
def ptsZ (cols : List Int) (a b : Nat) : List (Nat × Nat) := (ptsI cols a b).map zP
theorem maxN_le {g : Nat → Int} {B : Int} : ∀ {k : Nat}, (∀ j, j ≤ k → g j ≤ B) → maxN g k ≤ B
 | 0, h => h 0 (Nat.le_refl _)
 | k + 1, h => by
   have h1 := maxN_le (k := k) fun j hj => h j (by omega)
   have h2 := h (k + 1) (Nat.le_refl _)
   unfold maxN
   omega
theorem le_maxN {g : Nat → Int} : ∀ {k j : Nat}, j ≤ k → g j ≤ maxN g k
 | 0, j, h => by
   have : j = 0 := by omega
   subst this; exact Int.le_refl _
 | k + 1, j, h => by
   unfold maxN
   by_cases e : j = k + 1
   ·subst e; omega
   ·have := le_maxN (g := g) (k := k) (j := j) (by omega)
    omega
theorem path_ok {cols : List Int} (hl : cols.length ≤ 26) (hc : ∀ j, 0 ≤ cols.getD j 0 ∧ cols.getD j 0 ≤ 24) {a b : Nat} (ha : a < cols.length) (hb : b < cols.length) : PCall E [] 30 [encI cols, i64 (a : Nat), i64 (b : Nat)] [] (fun v hp => v = .vec 1 0 (ptsZ cols a b).length ∧ hp = [.vec 1 (ptsZ cols a b).length (rowZ (ptsZ cols a b)) true]) := by
 refine p_call (fun _ _ => rfl) rfl ?_
 show PTri E false [] _ [encI cols, i64 (a : Nat), i64 (b : Nat), .junk, .junk, .junk] _ _
 refine s_run ?_
 refine s_ass (s_reg (g_run 1 ?_))
 refine g_run 1 ?_
 refine prg_head (v' := .s (.bool (decide (b = a + 1)))) (congrArg (fun b => PV.s (.bool b)) (by
  rw [Bool.beq_eq_decide_eq]
  exact decide_eq_decide.2 (by omega))) ?_
 refine g_end ?_
 have hpt : ∀ {l : List (Nat × Nat)} {i : Nat}, i < l.length → ((l.map cpl).drop (i * 1)).take 1 = rowZ l i := fun {l i} hi => by
  have hi' : i < (l.map cpl).length := by rw [List.length_map]; exact hi
  rw [Nat.mul_one, List.drop_eq_getElem_cons hi', List.take_succ_cons, List.take_zero, List.getElem_map]
  show _ = [cpl (l.getD i (0, 0))]
  rw [List.getD_eq_getElem?_getD, List.getElem?_eq_getElem hi]; rfl
 refine s_cond (fun h => ?_) (fun h => ?_)
 ·have hba : b = a + 1 := by simpa using h
  refine s_ass (s_drw (g_run 2 ?_))
  refine g_call (at_ok (c := cols.getD a 0) (a := (a : Nat)) (by omega) (by omega)) ?_
  rintro v rfl
  refine ⟨rfl, ?_⟩
  refine g_run 2 ?_
  refine g_call (at_ok (c := cols.getD b 0) (a := (b : Nat)) (by omega) (by omega)) ?_
  rintro v rfl
  refine ⟨rfl, ?_⟩
  refine g_end ?_
  have he : ptsZ cols a b = [zP (plcP cols a), zP (plcP cols b)] := by unfold ptsZ ptsI; rw [if_pos hba]; rfl
  rw [he]
  refine p_weak [some 0] [] (T' := [.junk, .junk, .junk, .vec 1 0 2, .junk, .junk]) (hp' := [.vec 1 2 (rowZ [zP (plcP cols a), zP (plcP cols b)]) true]) (wk _ _ _ _ (blks := .cons (bs_vec rfl fun j hj => hpt (l := [zP (plcP cols a), zP (plcP cols b)]) hj) .nil)) ?_
  exact s_ret (fin ⟨rfl, rfl⟩)
 have hba : b ≠ a + 1 := by simpa using h
 have he : ptsZ cols a b = [zP (plcP cols a), zP (rrI cols a b, -(a : Int)), zP (rrI cols a b, -(b : Int)), zP (plcP cols b)] := by unfold ptsZ ptsI; rw [if_neg hba]; rfl
 rw [he]
 obtain ⟨lo, hlo⟩ : ∃ lo, min a b = lo := ⟨_, rfl⟩
 obtain ⟨hi, hhi⟩ : ∃ hi, max a b = hi := ⟨_, rfl⟩
 refine s_skip (s_reg ?_)
 refine prg_flat (v := .int .i64 (min ((a : Nat) : Int) ((b : Nat) : Int))) rfl rfl rfl (flat_imin _ _) ?_
 refine prg_head (v' := i64 (lo : Nat)) (congrArg i64 (by omega)) ?_
 refine prg_flat (v := .int .i64 (max ((a : Nat) : Int) ((b : Nat) : Int))) rfl rfl rfl (flat_imax _ _) ?_
 refine prg_head (v' := i64 (hi : Nat)) (congrArg i64 (by omega)) ?_
 refine g_run 1 ?_
 refine prg_head (v' := i64 (hi + 1 : Nat)) rfl ?_
 refine g_run 1 ?_ (hq := by simp only [true_and, and_true]; omega)
 refine g_call (max_ok (m := hi + 1 - lo) (g := fun j => cols.getD (lo + j) 0) (by omega) (by omega) (fun j hj => rfl)) ?_
 rintro v rfl
 refine ⟨rfl, ?_⟩
 have hr : 1 + maxN (fun j => cols.getD (lo + j) 0) (hi + 1 - lo - 1) = rrI cols a b := by
  unfold rrI
  rw [hlo, hhi, show hi + 1 - lo - 1 = hi - lo by omega]
 have hrb : rrI cols a b ≤ 25 := by
  rw [← hr]
  have := maxN_le (g := fun j => cols.getD (lo + j) 0) (B := 24) (k := hi + 1 - lo - 1) fun j _ => (hc _).2
  omega
 have hrl : 1 ≤ rrI cols a b := by
  rw [← hr]
  have h1 := le_maxN (g := fun j => cols.getD (lo + j) 0) (k := hi + 1 - lo - 1) (j := 0) (Nat.zero_le _)
  have h2 := (hc (lo + 0)).1
  have : 0 ≤ maxN (fun j => cols.getD (lo + j) 0) (hi + 1 - lo - 1) := Int.le_trans h2 h1
  omega
 refine g_run 1 ?_ (hq := by simp only [true_and, and_true, in64]; rw [hr]; omega)
 refine prg_head (v' := i64 (rrI cols a b)) (congrArg i64 hr) ?_
 refine g_end ?_
 refine s_drw (g_run 2 ?_)
 refine g_call (at_ok (c := cols.getD a 0) (a := (a : Nat)) (by omega) (by omega)) ?_
 rintro v rfl
 refine ⟨rfl, ?_⟩
 refine g_call (at_ok (c := rrI cols a b) (a := (a : Nat)) (by omega) (by omega)) ?_
 rintro v rfl
 refine ⟨rfl, ?_⟩
 refine g_call (at_ok (c := rrI cols a b) (a := (b : Nat)) (by omega) (by omega)) ?_
 rintro v rfl
 refine ⟨rfl, ?_⟩
 refine g_run 2 ?_
 refine g_call (at_ok (c := cols.getD b 0) (a := (b : Nat)) (by omega) (by omega)) ?_
 rintro v rfl
 refine ⟨rfl, ?_⟩
 refine g_end ?_
 refine p_weak [some 0] [] (T' := [.junk, .junk, .junk, .vec 1 0 4, .junk, .junk]) (hp' := [.vec 1 4 (rowZ [zP (plcP cols a), zP (rrI cols a b, -(a : Int)), zP (rrI cols a b, -(b : Int)), zP (plcP cols b)]) true]) (wk _ _ _ _ (blks := .cons (bs_vec rfl fun j hj => hpt (l := [zP (plcP cols a), zP (rrI cols a b, -(a : Int)), zP (rrI cols a b, -(b : Int)), zP (plcP cols b)]) hj) .nil)) ?_
 exact p_ret (fin ⟨rfl, rfl⟩)
end Go.Proofs.Ytggaimcopbjdiaa.Graph
namespace Go.Proofs.Ytggaimcopbjdiaa.Graph
open Go.Proofs.Ytggaimcopbjdiaa.AM Go.Proofs.Ytggaimcopbjdiaa.Post
theorem nextI_in {code : List (Int × Int)} {a b : Int} (hm : b ∈ nextI code a) : 0 ≤ a ∧ a < code.length ∧ 0 ≤ b ∧ b ≤ code.length := by
 unfold nextI at hm
 split at hm
 ·next h2 =>
  have := next_range (a := a.toNat) (by omega) hm
  omega
 ·cases hm
noncomputable def epI (code : List (Int × Int)) (a b : Int) : List (Int × Int) := if b ∈ nextI code a then ptsI (colF code) a.toNat b.toNat else []
noncomputable def epZ (code : List (Int × Int)) (a b : Int) : List (Nat × Nat) := (epI code a b).map zP
theorem pathO_ok {f : Fn} (hf : Fit f.code) (h24 : f.code.length ≤ 24) (a b : Int) : PCall E [] 11 [encF f, i64 a, i64 b] [] (fun v hp => v = .tup [.vec 1 0 (epZ f.code a b).length, .s (.bool (decide (b ∈ nextI f.code a)))] ∧ hp = [.vec 1 (epZ f.code a b).length (rowZ (epZ f.code a b)) true] ∧ (b ∈ nextI f.code a → TreeR f.code (nrT f.code))) := by
 refine p_call (fun _ _ => rfl) rfl ?_
 show PTri E false [] _ [encF f, i64 a, i64 b, .junk, .junk, .junk, .junk] _ _
 refine s_run ?_
 refine p_weak [] [0] (T' := [.junk, i64 a, i64 b, .fptr 6 1 (fun _ => cellsF f) 0 0, .s (.slice none 0 0), .s (.bool false), .junk]) (hp' := []) (wk _ _ _ _ (vals := ?_)) ?_
 ·refine .cons (.one (.junk _)) (.cons (.nlv rfl) (.cons (.nlv rfl) (.cons (.one ?_) (.cons (.nlv rfl) (.cons (.nlv rfl) ?_)))))
  ·exact .ptrf (.head _) rfl (by omega) rfl (by simp [cellsF]) rfl fun j hj => by
    have : j = 0 := by omega
    subst this; rfl
  ·repeat' (first | exact VSubs.nil | apply VSubs.cons | exact VSub.one (VSub1.junk _))
 refine s_ass (s_reg (g_run 1 ?_))
 refine g_call (next_ok hf a) ?_
 rintro v rfl
 refine ⟨rfl, ?_⟩
 have hnl : (nextI f.code a).length ≤ 2 := nextI_len _ _
 refine g_call (contains_ok (l := nextI f.code a) (by omega) b) ?_
 rintro v rfl
 refine ⟨rfl, ?_⟩
 refine g_end ?_
 by_cases hm : b ∈ nextI f.code a
 rotate_left
 ·rw [decide_eq_false hm]
  have he : epZ f.code a b = [] := by unfold epZ epI; rw [if_neg hm]; rfl
  rw [he]
  refine s_t (s_ass (s_run ?_))
  refine p_weak [none] [] (T' := [.junk, .junk, .junk, .junk, .vec 1 0 0, .s (.bool false), .junk]) (hp' := [.vec 1 0 (rowZ []) true]) (wk _ _ _ _ (blks := .cons (.nil rfl) .nil)) ?_
  exact s_ret (fin ⟨rfl, rfl, fun h => absurd h hm⟩)
 rw [decide_eq_true hm]
 obtain ⟨n0, n1, n2, n3⟩ := nextI_in hm
 have he : epZ f.code a b = ptsZ (colF f.code) a.toNat b.toNat := by unfold epZ epI; rw [if_pos hm]; rfl
 rw [he]
 have hcl := colF_len f.code
 have hpk := path_ok (cols := colF f.code) (by omega) (fun j => by have := colF_at f.code j; omega) (a := a.toNat) (b := b.toNat) (by omega) (by omega)
 rw [show ((a.toNat : Nat) : Int) = a by omega, show ((b.toNat : Nat) : Int) = b by omega] at hpk
 refine s_f (s_skip ?_)
 refine s_reg (g_run 1 ?_)
 refine g_call (columnsT_ok hf (by omega)) ?_
 rintro v ⟨hT, rfl⟩
 refine ⟨rfl, ?_⟩
 refine g_scall [] [] (args' := [encI (colF f.code), i64 a, i64 b]) (hpc := []) hpk ⟨rfl, rfl, rfl, .cons (.nlv rfl) (.cons (.nlv rfl) (.cons (.nlv rfl) .nil)), .nil⟩ ?_
 rintro v hpc' ⟨rfl, rfl⟩
 refine ⟨rfl, rfl, Nat.zero_le _, ?_⟩
 refine g_end ?_
 exact p_ret (fin ⟨rfl, rfl, fun _ => hT (by omega)⟩)
end Go.Proofs.Ytggaimcopbjdiaa.Graph
namespace Go.Proofs.Ytggaimcopbjdiaa.Graph
open Go.Proofs.Ytggaimcopbjdiaa.AM Go.Proofs.Ytggaimcopbjdiaa.Post
theorem colN_gov (code : List (Int × Int)) {a : Nat} (ha : a ≤ code.length) : ∀ k, (colN (fun b => ofL code b) (code.length + 1) k).getD a 0 = ((govI code (a : Int) k).length : Nat)
 | 0 => by
   show (List.replicate _ _).getD a 0 = _
   simp only [List.getD_eq_getElem?_getD, List.getElem?_replicate]
   rw [if_pos (by omega)]; rfl
 | k + 1 => by
   have ih := colN_gov code ha k
   have hex : ∀ (os : List Nat) (l : List Int), os.Nodup → (∀ x, x ∈ os → x < l.length) → (colB os l).getD a 0 = l.getD a 0 + (if a ∈ os then 1 else 0) := by
    intro os
    induction os with
    | nil => intro l _ _; simp [colB]
    | cons x os ihx =>
      intro l hn hl
      obtain ⟨n1, n2⟩ := List.nodup_cons.1 hn
      have := ihx (incAt l x) n2 (fun y hy => by rw [incAt_len]; exact hl y (List.mem_cons_of_mem _ hy))
      show (colB os (incAt l x)).getD a 0 = _
      rw [this, incAt_at (hl x (List.mem_cons_self ..))]
      by_cases e : a = x
      ·subst e
       rw [if_pos rfl, if_neg n1, if_pos (List.mem_cons_self ..)]; omega
      ·rw [if_neg e]
       by_cases m : a ∈ os
       ·rw [if_pos m, if_pos (List.mem_cons_of_mem _ m)]; omega
       ·rw [if_neg m, if_neg (by rw [List.mem_cons]; exact fun h => h.elim e m)]; omega
   show (colB (ofL code k) (colN _ _ k)).getD a 0 = _
   rw [hex _ _ (ofL_nodup code k) (fun x hx => by rw [colN_len]; have := ofL_lt hx; omega), ih, govI_succ]
   have hq : (a ∈ ofL code k) ↔ inQ code (a : Int) k = true := by
    rw [of_mem, inQ_iff, Int.toNat_natCast]
    exact ⟨fun h => ⟨by omega, h.2⟩, fun h => ⟨reg_lt h.2, h.2⟩⟩
   by_cases m : a ∈ ofL code k
   ·rw [if_pos m, if_pos (hq.1 m), List.length_append]; simp
   ·rw [if_neg m, if_neg (fun h => m (hq.2 h))]; omega
theorem colF_gov (code : List (Int × Int)) {a : Nat} (ha : a ≤ code.length) : (colF code).getD a 0 = ((govI code (a : Int) code.length).length : Nat) := colN_gov code ha _
def pVt (p : Int × Int) : List PV := [i64 p.1, i64 p.2]
def rowPt (l : List (Int × Int)) : Nat → List PV := fun i => pVt (l.getD i (0, 0))
def encPt (l : List (Int × Int)) : PV := .frz 2 l.length l.length (rowPt l)
theorem plcI_len (cols : List Int) : (plcI cols).length = cols.length := by simp [plcI]
theorem plcI_at {cols : List Int} {k : Nat} (hk : k < cols.length) : (plcI cols).getD k (0, 0) = plcP cols k := by
 simp [plcI, plcP, List.getD_eq_getElem?_getD, hk]
theorem rowPt_push {l : List (Int × Int)} {p : Int × Int} {n i : Nat} (hn : l.length = n) (hi : i < n + 1) : (if i < n then rowPt l i else ((pVt p).drop ((i - n) * 2)).take 2) = rowPt (l ++ [p]) i := by
 unfold rowPt
 by_cases e : i < n
 ·rw [if_pos e, List.getD_eq_getElem?_getD, List.getD_eq_getElem?_getD, List.getElem?_append_left (by omega)]
 ·have : i = n := by omega
  subst this
  rw [if_neg e, Nat.sub_self, List.getD_eq_getElem?_getD, List.getElem?_append_right (by omega), hn, Nat.sub_self]
  rfl
def rpT (f : Fn) (k : Nat) : List PV := [.junk, .fptr 6 1 (fun _ => cellsF f) 0 0, .s (.slice none 0 0), .vec 2 0 k, i64 (k : Nat), .junk]
theorem rplaces_ok {f : Fn} (hf : Fit f.code) (hT : TreeR f.code (nrT f.code)) (h24 : f.code.length ≤ 24) : PFun E 33 [encF f] (valQ (isV (encPt (plcI (colF f.code))))) := by
 obtain ⟨n, hn⟩ : ∃ n, f.code.length = n := ⟨_, rfl⟩
 obtain ⟨P, hP⟩ : ∃ P, plcI (colF f.code) = P := ⟨_, rfl⟩
 have hPl : P.length = n + 1 := by rw [← hP, plcI_len, colF_len, hn]
 rw [hP]
 refine p_fun ?_
 show PTri E false [] _ [encF f, .junk, .junk, .junk, .junk, .junk] _ _
 refine s_run ?_
 refine s_run ?_
 refine p_weak [] [0] (T' := [.junk, .fptr 6 1 (fun _ => cellsF f) 0 0, .s (.slice none 0 0), .s (.slice none 0 0), .junk, .junk]) (hp' := []) (wk _ _ _ _ (vals := ?_)) ?_
 ·refine .cons (.one (.junk _)) (.cons (.one ?_) (.cons (.nlv rfl) (.cons (.nlv rfl) ?_)))
  ·exact .ptrf (.head _) rfl (by omega) rfl (by simp [cellsF]) rfl fun j hj => by
    have : j = 0 := by omega
    subst this; rfl
  ·repeat' (first | exact VSubs.nil | apply VSubs.cons | exact VSub.one (VSub1.junk _))
 refine s_ass (s_run ?_)
 refine s_loop (ι := Nat) (fun k => k ≤ n + 1) (fun k => n + 1 - k) (fun k => rpT f k) (fun k => [.vec 2 k (rowPt (P.take k)) true]) 0 (Nat.zero_le _) (σ := [none]) (fz := []) (wk _ _ _ _ (blks := .cons (.nil rfl) .nil)) ?_
 intro k hk
 unfold rpT
 refine s_ass (s_run ?_)
 refine s_cond (fun h => ?_) (fun h => ?_)
 ·simp only [decide_eq_true_eq] at h
  have hkn : k < n + 1 := by omega
  refine s_skip (s_block ?_)
  refine e_reg (g_run 1 ?_)
  refine g_call (rgov_ok hf hT (k : Nat)) ?_
  rintro v rfl
  refine ⟨rfl, ?_⟩
  have hg := colF_gov f.code (a := k) (by omega)
  refine g_run 1 ?_
  refine prg_head (v' := i64 ((colF f.code).getD k 0)) (by rw [hg, hn]; show PV.s (.int .i64 _) = _; unfold natI; rw [List.length_map]; rfl) ?_
  refine prg_flat (v := .int .i64 (-((k : Nat) : Int))) rfl rfl rfl (flat_ineg (by omega) (by omega)) ?_
  refine g_end ?_ (hq := by simp only [room, true_and, and_true]; omega)
  refine e_run ?_
  have htl : (P.take k).length = k := by rw [List.length_take]; omega
  refine lp_next (k + 1) (by omega) (σ := [some 2]) (fz := []) (wk _ _ _ _ (blks := .cons (.vec rfl (by decide) rfl (Nat.le_refl _) (fun h => ⟨h, rfl⟩) fun j hj => ?_) .nil))
  have hpk : P[k]? = some (plcP (colF f.code) k) := by
   have := plcI_at (cols := colF f.code) (k := k) (by rw [colF_len]; omega)
   rw [hP, List.getD_eq_getElem?_getD, List.getElem?_eq_getElem (by omega)] at this
   rw [List.getElem?_eq_getElem (by omega)]
   exact congrArg some this
  have : P.take (k + 1) = P.take k ++ [plcP (colF f.code) k] := by rw [List.take_add_one, hpk]; rfl
  rw [this]
  exact rowPt_push (p := plcP (colF f.code) k) htl hj
 ·simp only [decide_eq_false_iff_not] at h
  have hkn : k = n + 1 := by omega
  rw [List.take_of_length_le (by omega), hkn]
  refine s_exit ?_
  refine s_run ?_
  refine p_weak [] [0] (T' := [.junk, .junk, encPt P, .junk, .junk, .junk]) (hp' := []) (wk _ _ _ _ (vals := ?_)) ?_
  ·refine .cons (.one (.junk _)) (.cons (.one (.junk _)) (.cons (.one ?_) ?_))
   ·exact .vecf (.head _) rfl hPl.symm (Nat.le_refl _) (Nat.le_of_eq hPl) fun _ _ => rfl
   ·repeat' (first | exact VSubs.nil | apply VSubs.cons | exact VSub.one (VSub1.junk _))
  exact p_ret fin_v
end Go.Proofs.Ytggaimcopbjdiaa.Graph
namespace Go.Proofs.Ytggaimcopbjdiaa.Graph
open Go.Proofs.Ytggaimcopbjdiaa.AM Go.Proofs.Ytggaimcopbjdiaa.Post
def rk (cols : List Int) (a b : Nat) : Nat → Int
 | 0 => 0
 | k + 1 => if min a b ≤ k ∧ k ≤ max a b ∧ rk cols a b k ≤ cols.getD k 0 then cols.getD k 0 + 1 else rk cols a b k
theorem rk_eq {cols : List Int} (h0 : ∀ j, 0 ≤ cols.getD j 0) {a b lo hi : Nat} (hlo : min a b = lo) (hhi : max a b = hi) : ∀ k, rk cols a b k = if k ≤ lo then 0 else 1 + maxN (fun j => cols.getD (lo + j) 0) (min (k - 1) hi - lo)
 | 0 => by rw [if_pos (Nat.zero_le _)]; rfl
 | k + 1 => by
   have ih := rk_eq h0 hlo hhi k
   have hle : lo ≤ hi := by omega
   unfold rk
   rw [hlo, hhi]
   by_cases h1 : k < lo
   ·rw [if_neg (by omega), ih, if_pos (by omega), if_pos (by omega)]
   ·rw [if_neg (show ¬ k + 1 ≤ lo by omega)]
    by_cases h2 : k = lo
    ·subst h2
     rw [ih, if_pos (Nat.le_refl _), if_pos ⟨Nat.le_refl _, hle, h0 _⟩]
     rw [show min (k + 1 - 1) hi - k = 0 by omega]
     show _ = 1 + cols.getD (k + 0) 0
     rw [Nat.add_zero, Int.add_comm]
    ·by_cases h3 : k ≤ hi
     ·rw [if_neg (by omega)] at ih
      have e1 : min (k + 1 - 1) hi - lo = (min (k - 1) hi - lo) + 1 := by omega
      have e2 : lo + (min (k - 1) hi - lo + 1) = k := by omega
      rw [e1]
      unfold maxN
      rw [e2]
      by_cases h4 : rk cols a b k ≤ cols.getD k 0
      ·rw [if_pos ⟨by omega, h3, h4⟩]; rw [ih] at h4; omega
      ·rw [if_neg (fun h => h4 h.2.2)]; rw [ih] at h4 ⊢; omega
     ·rw [if_neg (by omega), ih, if_neg (by omega)]
      rw [show min (k + 1 - 1) hi = min (k - 1) hi by omega]
theorem rk_end {cols : List Int} (h0 : ∀ j, 0 ≤ cols.getD j 0) {a b n : Nat} (ha : a < n) (hb : b < n) : rk cols a b n = rrI cols a b := by
 rw [rk_eq h0 rfl rfl, if_neg (by omega)]
 unfold rrI
 rw [show min (n - 1) (max a b) = max a b by omega]
theorem rk_in {cols : List Int} {B : Int} (h0 : ∀ j, 0 ≤ cols.getD j 0 ∧ cols.getD j 0 ≤ B) {a b : Nat} : ∀ k, 0 ≤ rk cols a b k ∧ rk cols a b k ≤ B + 1
 | 0 => by have := h0 0; show (0 : Int) ≤ 0 ∧ (0 : Int) ≤ _; omega
 | k + 1 => by
   have := h0 k
   have := rk_in h0 (a := a) (b := b) k
   unfold rk
   split <;> omega
def rqT (cols : List Int) (a b : Nat) (r k : Int) : List PV := [encPt (plcI cols), i64 (a : Nat), i64 (b : Nat), .s (.slice none 0 0), i64 r, i64 k, .junk, .junk, .junk]
theorem rpath_ok {cols : List Int} (hl : cols.length ≤ 26) (hc : ∀ j, 0 ≤ cols.getD j 0 ∧ cols.getD j 0 ≤ 24) {a b : Nat} (ha : a < cols.length) (hb : b < cols.length) : PFun E 32 [encPt (plcI cols), i64 (a : Nat), i64 (b : Nat)] (valQ (isV (encPt (ptsI cols a b)))) := by
 obtain ⟨n, hn⟩ : ∃ n, cols.length = n := ⟨_, rfl⟩
 have hPl : (plcI cols).length = n := by rw [plcI_len, hn]
 have hPa := plcI_at (cols := cols) (k := a) ha
 have hPb := plcI_at (cols := cols) (k := b) hb
 rw [hn] at hl ha hb
 have hrow : ∀ {p : Int × Int} {k : Nat}, (plcI cols).getD k (0, 0) = p → rowPt (plcI cols) k = pVt p := fun h => by unfold rowPt; rw [h]
 refine p_fun ?_
 show PTri E false [] _ [encPt (plcI cols), i64 (a : Nat), i64 (b : Nat), .junk, .junk, .junk, .junk, .junk, .junk] _ _
 refine s_run ?_
 refine s_ass (s_reg (g_run 1 ?_))
 refine g_run 1 ?_
 refine prg_head (v' := .s (.bool (decide (b = a + 1)))) (congrArg (fun b => PV.s (.bool b)) (by
  rw [Bool.beq_eq_decide_eq]
  exact decide_eq_decide.2 (by omega))) ?_
 refine g_end ?_
 refine s_cond (fun h => ?_) (fun h => ?_)
 ·have hba : b = a + 1 := by simpa using h
  have he : ptsI cols a b = [plcP cols a, plcP cols b] := by unfold ptsI; rw [if_pos hba]
  rw [he]
  refine s_ass (s_drw (g_run 1 ?_))
  refine prg_v (v := .agg (pVt (plcP cols a))) (q := True) (by simp only [pval, psev, List.getElem?_cons_zero, pload, hrow hPa]; rfl) ?_ trivial rfl
  refine g_run 1 ?_
  refine prg_v (v := .agg (pVt (plcP cols b))) (q := True) (by simp only [pval, psev, List.getElem?_cons_zero, pload, hrow hPb]; rfl) ?_ trivial rfl
  refine g_end ?_
  refine p_weak [] [0] (T' := [.junk, .junk, .junk, encPt [plcP cols a, plcP cols b], .junk, .junk, .junk, .junk, .junk]) (hp' := []) (wk _ _ _ _ (vals := ?_)) ?_
  ·refine .cons (.one (.junk _)) (.cons (.one (.junk _)) (.cons (.one (.junk _)) (.cons (.one ?_) ?_)))
   ·exact .vecf (.head _) rfl rfl (Nat.le_refl _) (Nat.le_refl _) fun i hi => match i, hi with
     | 0, _ => rfl
     | 1, _ => rfl
   ·repeat' (first | exact VSubs.nil | apply VSubs.cons | exact VSub.one (VSub1.junk _))
  exact s_ret fin_v
 have hba : b ≠ a + 1 := by simpa using h
 refine s_skip (s_run ?_)
 refine s_ass (s_run ?_)
 refine s_loop (ι := Nat) (fun k => k ≤ n) (fun k => n - k) (fun k => rqT cols a b (rk cols a b k) (k : Nat)) (fun _ => []) 0 (Nat.zero_le _) (σ := []) (fz := []) (wk _ _ _ _) ?_
 intro k hk
 unfold rqT
 have hrk := rk_in hc (a := a) (b := b) k
 refine s_ass (s_reg (g_run 1 ?_))
 refine prg_head (v' := i64 (n : Nat)) (by rw [← hPl]; rfl) ?_
 refine g_end ?_
 refine s_cond (fun h => ?_) (fun h => ?_)
 ·simp only [decide_eq_true_eq] at h
  have hkn : k < n := by omega
  have hPk := plcI_at (cols := cols) (k := k) (by omega)
  have hck := hc k
  refine s_skip (s_block ?_)
  have hno : ¬ (min a b ≤ k ∧ k ≤ max a b) → rk cols a b (k + 1) = rk cols a b k := fun h => by
   show (if min a b ≤ k ∧ k ≤ max a b ∧ _ then _ else _) = _
   rw [if_neg (fun q => h ⟨q.1, q.2.1⟩)]
  have hsm : ¬ rk cols a b k ≤ cols.getD k 0 → rk cols a b (k + 1) = rk cols a b k := fun h => by
   show (if min a b ≤ k ∧ k ≤ max a b ∧ _ then _ else _) = _
   rw [if_neg (fun q => h q.2.2)]
  have hye : (min a b ≤ k ∧ k ≤ max a b) → rk cols a b k ≤ cols.getD k 0 → rk cols a b (k + 1) = cols.getD k 0 + 1 := fun h q => by
   show (if min a b ≤ k ∧ k ≤ max a b ∧ _ then _ else _) = _
   rw [if_pos ⟨h.1, h.2, q⟩]
  refine s_reg (g_run 1 ?_)
  refine prg_split (fun h1 => ?_) (fun h1 => ?_)
  ·simp only [ge_iff_le, decide_eq_true_eq] at h1
   refine g_run 3 ?_
   refine prg_split (fun h2 => ?_) (fun h2 => ?_)
   ·simp only [decide_eq_true_eq] at h2
    refine g_run 14 ?_
    refine prg_v (v := i64 (cols.getD k 0)) (q := True) (by simp only [pval, psev, List.getElem?_cons_zero, pload, hrow hPk]; rfl) ?_ trivial rfl
    refine g_run 2 ?_
    refine prg_split (fun h9 => ?_) (fun h9 => ?_)
    ·simp only [ge_iff_le, decide_eq_true_eq] at h9
     refine g_end ?_
     refine e_t ?_
     refine e_reg (g_run 2 ?_)
     refine prg_v (v := i64 (cols.getD k 0)) (q := True) (by simp only [pval, psev, List.getElem?_cons_zero, pload, hrow hPk]; rfl) ?_ trivial rfl
     refine g_end ?_ (hq := by simp only [true_and, and_true, in64]; omega)
     refine e_run ?_
     refine lp_next (k + 1) (by omega) (σ := []) (fz := []) (wk _ _ _ _ (vals := ?_))
     rw [hye (by omega) h9]
     repeat' (first | exact VSubs.nil | apply VSubs.cons | exact VSub.one (VSub1.junk _) | exact VSub.nlv rfl)
    ·simp only [ge_iff_le, decide_eq_false_iff_not] at h9
     refine g_end ?_
     refine e_f (p_skip (e_run ?_))
     refine lp_next (k + 1) (by omega) (σ := []) (fz := []) (wk _ _ _ _ (vals := ?_))
     rw [hsm h9]
     repeat' (first | exact VSubs.nil | apply VSubs.cons | exact VSub.one (VSub1.junk _) | exact VSub.nlv rfl)
   ·simp only [decide_eq_false_iff_not] at h2
    refine g_run 4 ?_
    refine prg_head (v' := .s (.bool true)) (by rw [decide_eq_true (by omega)]) ?_
    refine g_run 4 ?_
    refine prg_split (fun h3 => ?_) (fun h3 => ?_)
    ·simp only [decide_eq_true_eq] at h3
     refine g_run 6 ?_
     refine prg_v (v := i64 (cols.getD k 0)) (q := True) (by simp only [pval, psev, List.getElem?_cons_zero, pload, hrow hPk]; rfl) ?_ trivial rfl
     refine g_run 2 ?_
     refine prg_split (fun h9 => ?_) (fun h9 => ?_)
     ·simp only [ge_iff_le, decide_eq_true_eq] at h9
      refine g_end ?_
      refine e_t ?_
      refine e_reg (g_run 2 ?_)
      refine prg_v (v := i64 (cols.getD k 0)) (q := True) (by simp only [pval, psev, List.getElem?_cons_zero, pload, hrow hPk]; rfl) ?_ trivial rfl
      refine g_end ?_ (hq := by simp only [true_and, and_true, in64]; omega)
      refine e_run ?_
      refine lp_next (k + 1) (by omega) (σ := []) (fz := []) (wk _ _ _ _ (vals := ?_))
      rw [hye (by omega) h9]
      repeat' (first | exact VSubs.nil | apply VSubs.cons | exact VSub.one (VSub1.junk _) | exact VSub.nlv rfl)
     ·simp only [ge_iff_le, decide_eq_false_iff_not] at h9
      refine g_end ?_
      refine e_f (p_skip (e_run ?_))
      refine lp_next (k + 1) (by omega) (σ := []) (fz := []) (wk _ _ _ _ (vals := ?_))
      rw [hsm h9]
      repeat' (first | exact VSubs.nil | apply VSubs.cons | exact VSub.one (VSub1.junk _) | exact VSub.nlv rfl)
    ·simp only [decide_eq_false_iff_not] at h3
     refine g_end ?_
     refine e_f (p_skip (e_run ?_))
     refine lp_next (k + 1) (by omega) (σ := []) (fz := []) (wk _ _ _ _ (vals := ?_))
     rw [hno (by omega)]
     repeat' (first | exact VSubs.nil | apply VSubs.cons | exact VSub.one (VSub1.junk _) | exact VSub.nlv rfl)
  ·simp only [ge_iff_le, decide_eq_false_iff_not] at h1
   refine g_run 7 ?_
   refine prg_split (fun h2 => ?_) (fun h2 => ?_)
   ·simp only [ge_iff_le, decide_eq_true_eq] at h2
    refine g_run 4 ?_
    refine prg_head (v' := .s (.bool true)) (by rw [decide_eq_true (by omega)]) ?_
    refine g_run 6 ?_
    refine prg_v (v := i64 (cols.getD k 0)) (q := True) (by simp only [pval, psev, List.getElem?_cons_zero, pload, hrow hPk]; rfl) ?_ trivial rfl
    refine g_run 2 ?_
    refine prg_split (fun h9 => ?_) (fun h9 => ?_)
    ·simp only [ge_iff_le, decide_eq_true_eq] at h9
     refine g_end ?_
     refine e_t ?_
     refine e_reg (g_run 2 ?_)
     refine prg_v (v := i64 (cols.getD k 0)) (q := True) (by simp only [pval, psev, List.getElem?_cons_zero, pload, hrow hPk]; rfl) ?_ trivial rfl
     refine g_end ?_ (hq := by simp only [true_and, and_true, in64]; omega)
     refine e_run ?_
     refine lp_next (k + 1) (by omega) (σ := []) (fz := []) (wk _ _ _ _ (vals := ?_))
     rw [hye (by omega) h9]
     repeat' (first | exact VSubs.nil | apply VSubs.cons | exact VSub.one (VSub1.junk _) | exact VSub.nlv rfl)
    ·simp only [ge_iff_le, decide_eq_false_iff_not] at h9
     refine g_end ?_
     refine e_f (p_skip (e_run ?_))
     refine lp_next (k + 1) (by omega) (σ := []) (fz := []) (wk _ _ _ _ (vals := ?_))
     rw [hsm h9]
     repeat' (first | exact VSubs.nil | apply VSubs.cons | exact VSub.one (VSub1.junk _) | exact VSub.nlv rfl)
   ·simp only [ge_iff_le, decide_eq_false_iff_not] at h2
    refine g_end ?_
    refine e_f (p_skip (e_run ?_))
    refine lp_next (k + 1) (by omega) (σ := []) (fz := []) (wk _ _ _ _ (vals := ?_))
    rw [hno (by omega)]
    repeat' (first | exact VSubs.nil | apply VSubs.cons | exact VSub.one (VSub1.junk _) | exact VSub.nlv rfl)
 ·simp only [decide_eq_false_iff_not] at h
  have hkn : k = n := by omega
  subst hkn
  rw [rk_end (fun j => (hc j).1) ha hb]
  have hrr : 0 ≤ rrI cols a b ∧ rrI cols a b ≤ 25 := by rw [← rk_end (fun j => (hc j).1) ha hb]; omega
  have he : ptsI cols a b = [plcP cols a, (rrI cols a b, -(a : Int)), (rrI cols a b, -(b : Int)), plcP cols b] := by unfold ptsI; rw [if_neg hba]
  rw [he]
  refine s_exit ?_
  refine s_drw (g_run 1 ?_)
  refine prg_v (v := .agg (pVt (plcP cols a))) (q := True) (by simp only [pval, psev, List.getElem?_cons_zero, pload, hrow hPa]; rfl) ?_ trivial rfl
  refine prg_flat (v := .int .i64 (-((a : Nat) : Int))) rfl rfl rfl (flat_ineg (by omega) (by omega)) ?_
  refine g_run 1 ?_
  refine prg_flat (v := .int .i64 (-((b : Nat) : Int))) rfl rfl rfl (flat_ineg (by omega) (by omega)) ?_
  refine g_run 2 ?_
  refine prg_v (v := .agg (pVt (plcP cols b))) (q := True) (by simp only [pval, psev, List.getElem?_cons_zero, pload, hrow hPb]; rfl) ?_ trivial rfl
  refine g_end ?_
  refine p_weak [] [0] (T' := [.junk, .junk, .junk, encPt [plcP cols a, (rrI cols a b, -(a : Int)), (rrI cols a b, -(b : Int)), plcP cols b], .junk, .junk, .junk, .junk, .junk]) (hp' := []) (wk _ _ _ _ (vals := ?_)) ?_
  ·refine .cons (.one (.junk _)) (.cons (.one (.junk _)) (.cons (.one (.junk _)) (.cons (.one ?_) ?_)))
   ·exact .vecf (.head _) rfl rfl (Nat.le_refl _) (Nat.le_refl _) fun i hi => match i, hi with
     | 0, _ => rfl
     | 1, _ => rfl
     | 2, _ => rfl
     | 3, _ => rfl
   ·repeat' (first | exact VSubs.nil | apply VSubs.cons | exact VSub.one (VSub1.junk _))
  exact p_ret fin_v
theorem rPath_ok {f : Fn} (hf : Fit f.code) (h24 : f.code.length ≤ 24) {a b : Int} (hb : in64 b) (hT : b ∈ nextI f.code a → TreeR f.code (nrT f.code)) : PFun E 12 [encF f, i64 a, i64 b] (valQ (isV (.tup [encPt (epI f.code a b), .s (.bool (decide (b ∈ nextI f.code a)))]))) := by
 refine p_fun ?_
 show PTri E false [] _ [encF f, i64 a, i64 b, .junk, .junk, .junk, .junk] _ _
 refine s_run ?_
 refine p_weak [] [0] (T' := [.junk, i64 a, i64 b, .fptr 6 1 (fun _ => cellsF f) 0 0, .s (.slice none 0 0), .s (.bool false), .junk]) (hp' := []) (wk _ _ _ _ (vals := ?_)) ?_
 ·refine .cons (.one (.junk _)) (.cons (.nlv rfl) (.cons (.nlv rfl) (.cons (.one ?_) (.cons (.nlv rfl) (.cons (.nlv rfl) ?_)))))
  ·exact .ptrf (.head _) rfl (by omega) rfl (by simp [cellsF]) rfl fun j hj => by
    have : j = 0 := by omega
    subst this; rfl
  ·repeat' (first | exact VSubs.nil | apply VSubs.cons | exact VSub.one (VSub1.junk _))
 refine s_ass (s_reg (g_run 1 ?_))
 refine g_call (edge_ok hf a b hb) ?_
 rintro v rfl
 refine ⟨rfl, ?_⟩
 refine g_end ?_
 by_cases hm : b ∈ nextI f.code a
 rotate_left
 ·rw [decide_eq_false hm]
  have he : epI f.code a b = [] := by unfold epI; rw [if_neg hm]
  rw [he]
  refine s_t (s_ass (s_run ?_))
  refine p_weak [] [] (T' := [.junk, .junk, .junk, .junk, encPt [], .s (.bool false), .junk]) (hp' := []) (wk _ _ _ _ (vals := ?_)) ?_
  ·exact .cons (.one (.junk _)) (.cons (.one (.junk _)) (.cons (.one (.junk _)) (.cons (.one (.junk _)) (.cons (.one .nilf) (.cons (.nlv rfl) (.cons (.one (.junk _)) .nil))))))
  exact s_ret fin_v
 rw [decide_eq_true hm]
 obtain ⟨n0, n1, n2, n3⟩ := nextI_in hm
 have he : epI f.code a b = ptsI (colF f.code) a.toNat b.toNat := by unfold epI; rw [if_pos hm]
 rw [he]
 have hcl := colF_len f.code
 have hpk := rpath_ok (cols := colF f.code) (by omega) (fun j => by have := colF_at f.code j; omega) (a := a.toNat) (b := b.toNat) (by omega) (by omega)
 rw [show ((a.toNat : Nat) : Int) = a by omega, show ((b.toNat : Nat) : Int) = b by omega] at hpk
 refine s_f (s_skip ?_)
 refine s_reg (g_run 1 ?_)
 refine g_call (rplaces_ok hf (hT hm) h24) ?_
 rintro v rfl
 refine ⟨rfl, ?_⟩
 refine g_call hpk ?_
 rintro v rfl
 refine ⟨rfl, ?_⟩
 refine g_end ?_
 exact p_ret fin_v
end Go.Proofs.Ytggaimcopbjdiaa.Graph
namespace Go.Proofs.Ytggaimcopbjdiaa.Graph
open Go.Proofs.Ytggaimcopbjdiaa.AM Go.Proofs.Ytggaimcopbjdiaa.Post
theorem abs_ok {a : Int} (h : -20 ≤ a ∧ a ≤ 20) : PFun E 35 [.s (.float .f64 (zb a))] (valQ (isV (.s (.float .f64 (zb ((a.natAbs : Nat) : Int)))))) := by
 refine p_fun ?_
 show PTri E false [] _ [.s (.float .f64 (zb a)), .junk] _ _
 refine s_run ?_
 refine s_reg ?_
 refine prg_xt (v := .int .u64 ((zb a : Nat) : Int)) rfl rfl rfl (flat_xt (e := Extern.MathFloatBits.float64bits) (by kernel_rfl) rfl rfl rfl) ?_
 refine g_run 1 ?_
 refine prg_head (v' := .s (.int .u64 ((zb ((a.natAbs : Nat) : Int) : Nat) : Int))) (congrArg (fun z => PV.s (.int .u64 z)) (ab_ok h)) ?_
 refine prg_xt (v := .float .f64 (zb ((a.natAbs : Nat) : Int))) rfl rfl rfl (flat_xt (e := Extern.MathFloatBits.float64frombits) (by kernel_rfl) rfl rfl rfl) ?_
 refine g_end ?_
 exact p_ret fin_v
theorem size_ok {a : Int} (h : -1000 ≤ a ∧ a ≤ 1000) : PFun E 36 [i64 a] (valQ (isV (i64 ((a.natAbs : Nat) : Int)))) := by
 refine p_fun ?_
 show PTri E false [] _ [i64 a, .junk, .junk] _ _
 refine s_run ?_
 refine s_ass (s_run ?_)
 refine s_cond (fun h1 => ?_) (fun h1 => ?_)
 ·simp only [decide_eq_true_eq] at h1
  refine s_ass (s_reg ?_)
  refine prg_flat (v := .int .i64 (-a)) rfl rfl rfl (flat_ineg (by omega) (by omega)) ?_
  refine g_end ?_
  rw [show ((a.natAbs : Nat) : Int) = -a by omega]
  exact s_ret fin_v
 ·simp only [decide_eq_false_iff_not] at h1
  refine s_skip (s_run ?_)
  rw [show ((a.natAbs : Nat) : Int) = a by omega]
  exact p_ret fin_v
def dstI (p q : Int × Int) : Int := (((q.1 - p.1).natAbs : Nat) : Int) + (((q.2 - p.2).natAbs : Nat) : Int)
def lenT (L : List (Int × Int)) : Nat → Int
 | 0 => 0
 | i + 1 => lenT L i + dstI (L.getD i (0, 0)) (L.getD (i + 1) (0, 0))
def lenI (L : List (Int × Int)) : Int := lenT L (L.length - 1)
structure LB (L : List (Int × Int)) : Prop where
 len : L.length ≤ 4
 at' : ∀ i, i < L.length → (0 ≤ (L.getD i (0, 0)).1 ∧ (L.getD i (0, 0)).1 ≤ 19) ∧ (-19 ≤ (L.getD i (0, 0)).2 ∧ (L.getD i (0, 0)).2 ≤ 0)
 d : ∀ i, i + 1 < L.length → dstI (L.getD i (0, 0)) (L.getD (i + 1) (0, 0)) ≤ 19
theorem lenT_in {L : List (Int × Int)} (h : LB L) : ∀ i : Nat, i < L.length ∨ i = 0 → 0 ≤ lenT L i ∧ lenT L i ≤ 19 * i
 | 0, _ => by show (0 : Int) ≤ 0 ∧ (0 : Int) ≤ _; omega
 | i + 1, hi => by
   have h1 := lenT_in h i (by omega)
   have h2 := h.d i (by omega)
   have h3 : 0 ≤ dstI (L.getD i (0, 0)) (L.getD (i + 1) (0, 0)) := by unfold dstI; omega
   show 0 ≤ lenT L i + _ ∧ lenT L i + _ ≤ _
   omega
theorem rrI_in {cols : List Int} {B : Int} (hc : ∀ j, 0 ≤ cols.getD j 0 ∧ cols.getD j 0 ≤ B) {a b : Nat} (ha : a < cols.length) (hb : b < cols.length) : 0 ≤ rrI cols a b ∧ rrI cols a b ≤ B + 1 := by
 rw [← rk_end (fun j => (hc j).1) ha hb]
 exact rk_in hc _
theorem ptsI_LB {cols : List Int} (hc : ∀ j, 0 ≤ cols.getD j 0 ∧ cols.getD j 0 ≤ 18) {a b : Nat} (ha : a < cols.length) (hb : b < cols.length) (hl : cols.length ≤ 19) : LB (ptsI cols a b) := by
 have hr := rrI_in hc ha hb
 have h1 := hc a
 have h2 := hc b
 unfold ptsI
 by_cases hba : b = a + 1
 ·rw [if_pos hba]
  refine ⟨by simp, fun i hi => ?_, fun i hi => ?_⟩
  ·match i, hi with
   | 0, _ => show (0 ≤ cols.getD a 0 ∧ cols.getD a 0 ≤ 19) ∧ (-19 ≤ -(a : Int) ∧ -(a : Int) ≤ 0); omega
   | 1, _ => show (0 ≤ cols.getD b 0 ∧ cols.getD b 0 ≤ 19) ∧ (-19 ≤ -(b : Int) ∧ -(b : Int) ≤ 0); omega
   | i + 2, hi => simp only [List.length_cons, List.length_nil] at hi; omega
  ·match i, hi with
   | 0, _ => show (((cols.getD b 0 - cols.getD a 0).natAbs : Nat) : Int) + (((-(b : Int) - -(a : Int)).natAbs : Nat) : Int) ≤ 19; omega
   | i + 1, hi => simp only [List.length_cons, List.length_nil] at hi; omega
 ·rw [if_neg hba]
  refine ⟨by simp, fun i hi => ?_, fun i hi => ?_⟩
  ·match i, hi with
   | 0, _ => show (0 ≤ cols.getD a 0 ∧ cols.getD a 0 ≤ 19) ∧ (-19 ≤ -(a : Int) ∧ -(a : Int) ≤ 0); omega
   | 1, _ => show (0 ≤ rrI cols a b ∧ rrI cols a b ≤ 19) ∧ (-19 ≤ -(a : Int) ∧ -(a : Int) ≤ 0); omega
   | 2, _ => show (0 ≤ rrI cols a b ∧ rrI cols a b ≤ 19) ∧ (-19 ≤ -(b : Int) ∧ -(b : Int) ≤ 0); omega
   | 3, _ => show (0 ≤ cols.getD b 0 ∧ cols.getD b 0 ≤ 19) ∧ (-19 ≤ -(b : Int) ∧ -(b : Int) ≤ 0); omega
   | i + 4, hi => simp only [List.length_cons, List.length_nil] at hi; omega
  ·match i, hi with
   | 0, _ => show (((rrI cols a b - cols.getD a 0).natAbs : Nat) : Int) + (((-(a : Int) - -(a : Int)).natAbs : Nat) : Int) ≤ 19; omega
   | 1, _ => show (((rrI cols a b - rrI cols a b).natAbs : Nat) : Int) + (((-(b : Int) - -(a : Int)).natAbs : Nat) : Int) ≤ 19; omega
   | 2, _ => show (((cols.getD b 0 - rrI cols a b).natAbs : Nat) : Int) + (((-(b : Int) - -(b : Int)).natAbs : Nat) : Int) ≤ 19; omega
   | i + 3, hi => simp only [List.length_cons, List.length_nil] at hi; omega
theorem epI_LB {code : List (Int × Int)} (h : code.length ≤ 18) (a b : Int) : LB (epI code a b) := by
 unfold epI
 by_cases hm : b ∈ nextI code a
 ·rw [if_pos hm]
  obtain ⟨n0, n1, n2, n3⟩ := nextI_in hm
  have hcl := colF_len code
  exact ptsI_LB (fun j => by have := colF_at code j; omega) (by omega) (by omega) (by omega)
 ·rw [if_neg hm]
  exact ⟨Nat.zero_le _, fun i hi => absurd hi (Nat.not_lt_zero _), fun i hi => absurd hi (Nat.not_lt_zero _)⟩
theorem path_ok' {f : Fn} (hf : Fit f.code) (h24 : f.code.length ≤ 24) (a b : Int) : PFun E 11 [encF f, i64 a, i64 b] (valQ fun v => (b ∈ nextI f.code a → TreeR f.code (nrT f.code)) ∧ v = .tup [encZ (epZ f.code a b), .s (.bool (decide (b ∈ nextI f.code a)))]) := by
 refine call_post (PCall.mono (pathO_ok hf h24 a b) ?_)
 rintro v hp ⟨rfl, rfl, hT⟩
 refine ⟨[], [0], .tup [encZ (epZ f.code a b), .s (.bool (decide (b ∈ nextI f.code a)))], [], ⟨rfl, rfl, rfl, .cons (.tup (.cons ?_ (.cons (.same rfl) .nil))) .nil, .nil⟩, rfl, hT, rfl⟩
 exact .vecf (.head _) rfl rfl (Nat.le_refl _) (Nat.le_refl _) fun _ _ => rfl
theorem rowZ_at {Z : List (Nat × Nat)} {k : Nat} {z : Nat × Nat} (h : Z.getD k (0, 0) = z) : rowZ Z k = [cpl z] := by rw [← h]; rfl
theorem rowPt_at {P : List (Int × Int)} {k : Nat} {p : Int × Int} (h : P.getD k (0, 0) = p) : rowPt P k = pVt p := by rw [← h]; rfl
theorem mapZ {L : List (Int × Int)} {k : Nat} (h : k < L.length) : (L.map zP).getD k (0, 0) = zP (L.getD k (0, 0)) := getD_map h (0, 0) (0, 0)
def lnT (Z : PV) (n : Int) (i : Nat) : List PV := [.junk, .junk, .junk, .junk, i64 0, Z, .s (.float .f64 (zb n)), i64 (i : Nat), .junk, .junk]
theorem length_ok {f : Fn} (hf : Fit f.code) (h18 : f.code.length ≤ 18) (a b : Int) : PFun E 14 [encF f, i64 a, i64 b] (valQ (isV (i64 (lenI (epI f.code a b))))) := by
 refine p_fun ?_
 show PTri E false [] _ [encF f, i64 a, i64 b, .junk, .junk, .junk, .junk, .junk, .junk, .junk] _ _
 refine s_run ?_
 refine s_reg (g_run 1 ?_)
 refine g_call (path_ok' hf (by omega) a b) ?_
 rintro v ⟨_, rfl⟩
 refine ⟨rfl, ?_⟩
 refine g_end ?_
 have hLB := epI_LB h18 a b
 unfold epZ
 obtain ⟨L, hL⟩ : ∃ L, epI f.code a b = L := ⟨_, rfl⟩
 obtain ⟨n, hn⟩ : ∃ n, L.length = n := ⟨_, rfl⟩
 rw [hL] at hLB ⊢
 have hZl : (L.map zP).length = n := by rw [List.length_map, hn]
 unfold encZ
 rw [hZl]
 refine s_run ?_
 refine s_ass (s_run ?_)
 refine s_loop (ι := Nat) (fun j => j < n ∨ j = 0) (fun j => n - j) (fun j => lnT (.frz 1 n n (rowZ (L.map zP))) (lenT L j) (j + 1)) (fun _ => []) 0 (.inr rfl) (σ := []) (fz := []) (wk _ _ _ _) ?_
 intro j hj
 unfold lnT
 have hlt := lenT_in hLB j (by omega)
 refine s_ass (s_run ?_)
 refine s_cond (fun h => ?_) (fun h => ?_)
 ·simp only [decide_eq_true_eq] at h
  have hjn : j + 1 < n := by omega
  have hz1 := rowZ_at (mapZ (L := L) (k := j + 1) (by omega))
  have hz0 := rowZ_at (mapZ (L := L) (k := j) (by omega))
  have hb1 := hLB.at' (j + 1) (by omega)
  have hb0 := hLB.at' j (by omega)
  have hd := hLB.d j (by omega)
  have h4 := hLB.len
  obtain ⟨q, hq⟩ : ∃ q, L.getD (j + 1) (0, 0) = q := ⟨_, rfl⟩
  obtain ⟨p, hp⟩ : ∃ p, L.getD j (0, 0) = p := ⟨_, rfl⟩
  have hls : lenT L (j + 1) = lenT L j + dstI p q := by rw [← hp, ← hq]; rfl
  rw [hq] at hz1 hb1
  rw [hp] at hz0 hb0
  rw [hp, hq] at hd
  unfold dstI at hd
  refine s_skip (s_block ?_)
  refine s_drw (g_run 1 ?_)
  refine prg_v (v := cpl (zP q)) (q := True) (by simp only [pval, psev, List.getElem?_cons_zero, pload, hz1]; rfl) ?_ trivial rfl
  refine g_run 1 ?_
  refine prg_head (v' := i64 (j : Nat)) (congrArg i64 (by omega)) ?_
  refine g_run 1 ?_
  refine prg_v (v := cpl (zP p)) (q := True) (by simp only [pval, psev, List.getElem?_cons_zero, pload, hz0]; rfl) ?_ trivial rfl
  refine prg_flat (v := .complex .f64 (zb (q.1 - p.1)) (zb (q.2 - p.2))) rfl rfl rfl (flat_csub (dp_ok (by omega) (by omega)) (dn_ok (by omega) (by omega))) ?_
  refine g_end ?_
  refine e_reg ?_
  refine prg_flat (v := .float .f64 (zb (q.1 - p.1))) rfl rfl rfl flat_re ?_
  refine g_call (abs_ok (a := q.1 - p.1) (by omega)) ?_
  rintro v rfl
  refine ⟨rfl, ?_⟩
  refine prg_flat (v := .float .f64 (zb (q.2 - p.2))) rfl rfl rfl flat_im ?_
  refine g_call (abs_ok (a := q.2 - p.2) (by omega)) ?_
  rintro v rfl
  refine ⟨rfl, ?_⟩
  refine prg_flat (v := .float .f64 (zb (dstI p q))) rfl rfl rfl (flat_arith (op := .add) (su_ok (by omega) (by omega)) (.inl rfl)) ?_
  refine prg_flat (v := .float .f64 (zb (lenT L (j + 1)))) rfl rfl rfl (by rw [hls]; exact flat_arith (op := .add) (su_ok (by omega) (by unfold dstI; omega)) (.inl rfl)) ?_
  refine g_end ?_
  refine e_run ?_
  exact lp_next (j + 1) (by omega) (σ := []) (fz := []) (wk _ _ _ _)
 ·simp only [decide_eq_false_iff_not] at h
  have hjn : j = n - 1 := by omega
  have e : lenI L = lenT L j := by unfold lenI; rw [hn, ← hjn]
  rw [e]
  have h4 := hLB.len
  refine s_exit ?_
  refine s_reg ?_
  refine prg_flat (v := .int .i64 (lenT L j)) rfl rfl rfl (flat_fi Try.underlying33 Try.underlying3 (by omega)) ?_
  refine g_end ?_
  exact p_ret fin_v
def rlT (P : PV) (n : Int) (i : Nat) : List PV := [.junk, .junk, .junk, .junk, i64 0, P, i64 n, i64 (i : Nat), .junk]
theorem rlength_ok {f : Fn} (hf : Fit f.code) (h18 : f.code.length ≤ 18) {a b : Int} (hb : in64 b) (hT : b ∈ nextI f.code a → TreeR f.code (nrT f.code)) : PFun E 15 [encF f, i64 a, i64 b] (valQ (isV (i64 (lenI (epI f.code a b))))) := by
 refine p_fun ?_
 show PTri E false [] _ [encF f, i64 a, i64 b, .junk, .junk, .junk, .junk, .junk, .junk] _ _
 refine s_run ?_
 refine s_reg (g_run 1 ?_)
 refine g_call (rPath_ok hf (by omega) (a := a) hb hT) ?_
 rintro v rfl
 refine ⟨rfl, ?_⟩
 refine g_end ?_
 have hLB := epI_LB h18 a b
 obtain ⟨L, hL⟩ : ∃ L, epI f.code a b = L := ⟨_, rfl⟩
 obtain ⟨n, hn⟩ : ∃ n, L.length = n := ⟨_, rfl⟩
 rw [hL] at hLB ⊢
 unfold encPt
 rw [hn]
 refine s_run ?_
 refine s_ass (s_run ?_)
 refine s_loop (ι := Nat) (fun j => j < n ∨ j = 0) (fun j => n - j) (fun j => rlT (.frz 2 n n (rowPt L)) (lenT L j) (j + 1)) (fun _ => []) 0 (.inr rfl) (σ := []) (fz := []) (wk _ _ _ _) ?_
 intro j hj
 unfold rlT
 have hlt := lenT_in hLB j (by omega)
 refine s_ass (s_run ?_)
 refine s_cond (fun h => ?_) (fun h => ?_)
 ·simp only [decide_eq_true_eq] at h
  have hjn : j + 1 < n := by omega
  obtain ⟨q, hq⟩ : ∃ q, L.getD (j + 1) (0, 0) = q := ⟨_, rfl⟩
  obtain ⟨p, hp⟩ : ∃ p, L.getD j (0, 0) = p := ⟨_, rfl⟩
  have hz1 := rowPt_at hq
  have hz0 := rowPt_at hp
  have hb1 := hLB.at' (j + 1) (by omega)
  have hb0 := hLB.at' j (by omega)
  have hd := hLB.d j (by omega)
  have h4 := hLB.len
  have hls : lenT L (j + 1) = lenT L j + dstI p q := by rw [← hp, ← hq]; rfl
  rw [hq] at hb1
  rw [hp] at hb0
  rw [hp, hq] at hd
  unfold dstI at hd
  refine s_skip (s_block ?_)
  have hj0 : ((j + 1 : Nat) : Int) - 1 = (j : Nat) := by omega
  refine e_drw (g_run 2 ?_)
  refine prg_v (v := i64 q.1) (q := True) (by simp only [pval, psev, List.getElem?_cons_zero, pload, hz1]; rfl) ?_ trivial rfl
  refine g_run 1 ?_
  refine prg_head (v' := i64 (j : Nat)) (congrArg i64 hj0) ?_
  refine g_run 2 ?_
  refine prg_v (v := i64 p.1) (q := True) (by simp only [pval, psev, List.getElem?_cons_zero, pload, hz0]; rfl) ?_ trivial rfl
  refine g_run 1 ?_
  refine g_call (size_ok (a := q.1 - p.1) (by omega)) ?_
  rintro v rfl
  refine ⟨rfl, ?_⟩
  refine g_run 2 ?_
  refine prg_v (v := i64 q.2) (q := True) (by simp only [pval, psev, List.getElem?_cons_zero, pload, hz1]; rfl) ?_ trivial rfl
  refine g_run 1 ?_
  refine prg_head (v' := i64 (j : Nat)) (congrArg i64 hj0) ?_
  refine g_run 2 ?_
  refine prg_v (v := i64 p.2) (q := True) (by simp only [pval, psev, List.getElem?_cons_zero, pload, hz0]; rfl) ?_ trivial rfl
  refine g_run 1 ?_
  refine g_call (size_ok (a := q.2 - p.2) (by omega)) ?_
  rintro v rfl
  refine ⟨rfl, ?_⟩
  refine g_run 2 ?_ (hq := by simp only [true_and, and_true, in64]; omega)
  refine prg_head (v' := i64 (lenT L (j + 1))) (congrArg i64 (by rw [hls]; unfold dstI; omega)) ?_
  refine g_end ?_
  refine e_run ?_
  exact lp_next (j + 1) (by omega) (σ := []) (fz := []) (wk _ _ _ _)
 ·simp only [decide_eq_false_iff_not] at h
  have hjn : j = n - 1 := by omega
  have e : lenI L = lenT L j := by unfold lenI; rw [hn, ← hjn]
  rw [e]
  refine s_exit ?_
  refine s_run ?_
  exact p_ret fin_v
end Go.Proofs.Ytggaimcopbjdiaa.Graph
namespace Go.Proofs.Ytggaimcopbjdiaa.Graph
open Go.Proofs.Ytggaimcopbjdiaa.AM Go.Proofs.Ytggaimcopbjdiaa.Post
theorem flat_ceq {P : Program} {t : TypeId} {xo yo : Operand} {x y u v : Nat} : aflat P (.bin .eql t xo yo) [.complex .f64 x y, .complex .f64 u v] = some (.bool ((dbl.order x u == some .eq) && (dbl.order y v == some .eq))) := by
 have hm : pureRun P (Op.complexOp .eql .f64 x y u v) = some (.bool ((dbl.order x u == some .eq) && (dbl.order y v == some .eq))) := by
  unfold Op.complexOp
  simp only [pr_bind, pr_pure, pr_ccmp rfl, Option.bind_some]
 refine aflat_of rfl ?_ rfl
 show pureRun P (flatSem (.bin .eql t xo yo) [.complex .f64 x y, .complex .f64 u v]) = some (.bool ((dbl.order x u == some .eq) && (dbl.order y v == some .eq)))
 show pureRun P (eqGuard .eql t xo yo _ _ >>= fun _ => binOp .eql t _ _) = _
 rw [pr_bind, show pureRun P (eqGuard .eql t xo yo (.complex .f64 x y) (.complex .f64 u v)) = some () from rfl, Option.bind_some]
 exact hm
def SmallP (p : Int × Int) : Prop := (-25 ≤ p.1 ∧ p.1 ≤ 25) ∧ (-25 ≤ p.2 ∧ p.2 ≤ 25)
theorem SmallP.rp {p : Int × Int} (h : SmallP p) : RpP (zP p) p := ⟨Rp.nearest h.1, Rp.nearest h.2⟩
theorem point_ok {p : Int × Int} (h : SmallP p) : PFun E 34 [cpl (zP p), .agg (pVt p)] (valQ (isV (.s (.bool true)))) := by
 refine p_fun ?_
 show PTri E false [] _ [cpl (zP p), .agg (pVt p), .junk, .junk] _ _
 refine s_run ?_
 refine s_reg (g_run 2 ?_)
 refine prg_flat (v := .float .f64 (zb p.1)) rfl rfl rfl (flat_conv Try.underlying3 Try.underlying33 p.1) ?_
 refine g_run 2 ?_
 refine prg_flat (v := .float .f64 (zb p.2)) rfl rfl rfl (flat_conv Try.underlying3 Try.underlying33 p.2) ?_
 refine prg_flat (v := .complex .f64 (zb p.1) (zb p.2)) rfl rfl rfl flat_cplx ?_
 refine prg_flat (v := .bool true) rfl rfl rfl (by
  show aflat _ _ [.complex .f64 (zP p).1 (zP p).2, .complex .f64 (zP p).1 (zP p).2] = _
  rw [flat_ceq, h.rp.eq h.rp]
  simp) ?_
 refine g_end ?_
 exact p_ret fin_v
theorem same_frz {P : List (Int × Int)} (hP : ∀ i, i < P.length → SmallP (P.getD i (0, 0))) {n : Nat} (hn : P.length = n) (hs : n < 1000000) : PFun E 13 [encZ (P.map zP), encPt P] (valQ (isV (.s (.bool true)))) := by
 have hZl : (P.map zP).length = n := by rw [List.length_map, hn]
 unfold encZ encPt
 rw [hZl, hn]
 refine p_fun ?_
 show PTri E false [] _ [.frz 1 n n (rowZ (P.map zP)), .frz 2 n n (rowPt P), .junk, .junk, .junk, .junk, .junk] _ _
 refine s_run ?_
 refine s_ass (s_reg (g_run 3 ?_))
 refine prg_head (v' := .s (.bool false)) (by simp) ?_
 refine g_end ?_
 refine s_f (s_skip ?_)
 refine s_ass (s_run ?_)
 refine s_loop (ι := Nat) (fun k => k ≤ n) (fun k => n - k) (fun k => [.frz 1 n n (rowZ (P.map zP)), .frz 2 n n (rowPt P), .s (.bool false), i64 (k : Nat), .junk, .junk, .junk]) (fun _ => []) 0 (Nat.zero_le _) (σ := []) (fz := []) (wk _ _ _ _) ?_
 intro k hk
 refine s_ass (s_run ?_)
 refine s_cond (fun h => ?_) (fun h => ?_)
 ·simp only [decide_eq_true_eq] at h
  have hkn : k < n := by omega
  have hz := rowZ_at (mapZ (L := P) (k := k) (by omega))
  have hr := rowPt_at (P := P) (k := k) rfl
  have hsm := hP k (by omega)
  obtain ⟨q, hq⟩ : ∃ q, P.getD k (0, 0) = q := ⟨_, rfl⟩
  rw [hq] at hz hr hsm
  refine s_skip (s_block ?_)
  refine s_drw (g_run 1 ?_)
  refine prg_v (v := cpl (zP q)) (q := True) (by simp only [pval, psev, List.getElem?_cons_zero, pload, hz]; rfl) ?_ trivial rfl
  refine g_run 1 ?_
  refine prg_v (v := .agg (pVt q)) (q := True) (by simp only [pval, psev, List.getElem?_cons_zero, pload, hr]; rfl) ?_ trivial rfl
  refine g_call (point_ok hsm) ?_
  rintro v rfl
  refine ⟨rfl, ?_⟩
  refine g_end ?_
  refine e_f (p_skip (e_run ?_))
  exact lp_next (k + 1) (by omega) (σ := []) (fz := []) (wk _ _ _ _)
 ·simp only [decide_eq_false_iff_not] at h
  refine s_exit ?_
  refine s_run ?_
  exact p_ret fin_v
theorem same_own {P : List (Int × Int)} (hP : ∀ i, i < P.length → SmallP (P.getD i (0, 0))) {n m : Nat} {g : Nat → List PV} {full : Bool} (hn : P.length = n) (hs : n < 1000000) (hm : n ≤ m) (hg : ∀ i, i < n → g i = [cpl (zP (P.getD i (0, 0)))]) : PCall E [0] 13 [.vec 1 0 n, .frz 2 n n (rowPt P)] [.vec 1 m g full] (fun v hp => v = .s (.bool true) ∧ hp = [.vec 1 m g full]) := by
 refine p_fn ?_
 show PTri E false [0] _ [.vec 1 0 n, .frz 2 n n (rowPt P), .junk, .junk, .junk, .junk, .junk] _ _
 refine s_run ?_
 refine s_ass (s_reg (g_run 3 ?_))
 refine prg_head (v' := .s (.bool false)) (by simp) ?_
 refine g_end ?_
 refine s_f (s_skip ?_)
 refine s_ass (s_run ?_)
 refine s_loop (ι := Nat) (fun k => k ≤ n) (fun k => n - k) (fun k => [.vec 1 0 n, .frz 2 n n (rowPt P), .s (.bool false), i64 (k : Nat), .junk, .junk, .junk]) (fun _ => [.vec 1 m g full]) 0 (Nat.zero_le _) (σ := [some 0]) (fz := []) (wk _ _ _ _ (blks := .cons bs_same .nil)) ?_
 intro k hk
 refine s_ass (s_run ?_)
 refine s_cond (fun h => ?_) (fun h => ?_)
 ·simp only [decide_eq_true_eq] at h
  have hkn : k < n := by omega
  have hz := hg k hkn
  have hr := rowPt_at (P := P) (k := k) rfl
  have hsm := hP k (by omega)
  obtain ⟨q, hq⟩ : ∃ q, P.getD k (0, 0) = q := ⟨_, rfl⟩
  rw [hq] at hz hr hsm
  refine s_skip (s_block ?_)
  refine s_drw (g_run 1 ?_)
  refine prg_v (v := cpl (zP q)) (q := k < m ∧ True) (by simp only [pval, psev, List.getElem?_cons_zero, pload, hz]; rfl) ?_ ⟨by omega, trivial⟩ rfl
  refine g_run 1 ?_
  refine prg_v (v := .agg (pVt q)) (q := True) (by simp only [pval, psev, List.getElem?_cons_zero, pload, hr]; rfl) ?_ trivial rfl
  refine g_call (point_ok hsm) ?_
  rintro v rfl
  refine ⟨rfl, ?_⟩
  refine g_end ?_
  refine e_f (p_skip (e_run ?_))
  exact lp_next (k + 1) (by omega) (σ := [some 0]) (fz := []) (wk _ _ _ _ (blks := .cons bs_same .nil))
 ·simp only [decide_eq_false_iff_not] at h
  refine s_exit ?_
  refine s_run ?_
  exact p_ret (fin ⟨rfl, rfl⟩)
def mi7 : Nat × Nat := (0, 13842939354630062080)
def mi8 : Nat × Nat := (13844065254536904704, 0)
def mi9 : Nat × Nat := (13844628204490326016, 0)
def apB28 (n k : Nat) (c Z : List (Nat × Nat)) : PH := [.vec 1 (n + k) (rowZ (c ++ List.replicate k mi8)) true, .vec 1 (n + k) (rowZ (Z ++ List.replicate k mi9)) true]
theorem rep_at {c : List (Nat × Nat)} {n k j : Nat} {x : Nat × Nat} (hc : c.length = n) (hj : j < k) : (c ++ List.replicate k x).getD (n + j) (0, 0) = x := by
 rw [List.getD_eq_getElem?_getD, List.getElem?_append_right (by omega), hc, Nat.add_sub_cancel_left, List.getElem?_replicate, if_pos hj]; rfl
theorem rep_push {c : List (Nat × Nat)} {n k : Nat} {x : Nat × Nat} (hc : c.length = n) {j : Nat} (hj : j < n + k + 1) : (if j < n + k then rowZ (c ++ List.replicate k x) j else (([cpl x].drop ((j - (n + k)) * 1)).take 1)) = rowZ (c ++ List.replicate (k + 1) x) j := by
 have hl : (c ++ List.replicate k x).length = n + k := by rw [List.length_append, List.length_replicate, hc]
 have := row1_push (en := cpl) (d := (0, 0)) (xs := c ++ List.replicate k x) (x := x) (i := j) (by rw [hl]; exact hj)
 rw [hl] at this
 rw [List.replicate_succ', ← List.append_assoc]
 exact this
theorem apart28_ok {P : List (Int × Int)} (hP : ∀ i, i < P.length → SmallP (P.getD i (0, 0))) {n : Nat} (hn : P.length = n) (hs : n < 1000000) {Z : List (Nat × Nat)} (hZ : Z = P.map zP) : PCall E [] 17 [.vec 1 0 n, .vec 1 1 n, encPt P] [.vec 1 n (rowZ Z) true, .vec 1 n (rowZ Z) true] (fun v _ => v = .s (.bool true)) := by
 have hZl : Z.length = n := by rw [hZ, List.length_map, hn]
 have hPz : encPt P = .frz 2 n n (rowPt P) := by unfold encPt; rw [hn]
 refine p_call (fun _ _ => rfl) rfl ?_
 show PTri E false [] _ [.vec 1 0 n, .vec 1 1 n, encPt P, .junk, .junk, .junk, .junk, .junk] _ _
 rw [hPz]
 refine s_run ?_
 refine s_ass (s_run ?_)
 refine s_loop (ι := Nat × List (Nat × Nat)) (fun j => j.1 ≤ n ∧ j.2.length = n) (fun j => n - j.1) (fun j => [.vec 1 0 n, .vec 1 1 n, .frz 2 n n (rowPt P), .s (.bool false), i64 (j.1 : Nat), .junk, .junk, .junk]) (fun j => [.vec 1 n (rowZ j.2) true, .vec 1 n (rowZ Z) true]) (0, Z) ⟨Nat.zero_le _, hZl⟩ (σ := [some 0, some 1]) (fz := []) (wk _ _ _ _ (blks := .cons (bs_vec rfl fun j hj => rfl) (.cons bs_same .nil))) ?_
 rintro ⟨k, c⟩ ⟨hk, hcl⟩
 dsimp only at hk hcl
 show PTri E false [] _ [.vec 1 0 n, .vec 1 1 n, .frz 2 n n (rowPt P), .s (.bool false), i64 (k : Nat), .junk, .junk, .junk] [.vec 1 n (rowZ c) true, .vec 1 n (rowZ Z) true] _
 refine s_ass (s_run ?_)
 refine s_cond (fun h => ?_) (fun h => ?_)
 ·simp only [decide_eq_true_eq] at h
  have hkn : k < n := by omega
  refine s_skip (s_block ?_)
  refine e_run ?_
  refine e_run ?_
  refine lp_next (k + 1, c.set k mi7) ⟨by show k + 1 ≤ n; omega, by show (c.set k mi7).length = n; rw [List.length_set]; exact hcl⟩ (hlt := by show n - (k + 1) < n - k; omega) (σ := [some 0, some 1]) (fz := []) (wk _ _ _ _ (blks := .cons (bs_vec rfl fun j hj => ?_) (.cons bs_same .nil)))
  exact row1_set (en := cpl) (d := (0, 0)) (xs := c) (c := k) (x := mi7) _ rfl (by omega)
 simp only [decide_eq_false_iff_not] at h
 refine s_exit ?_
 refine s_ass (s_run ?_)
 refine s_loop (ι := Nat) (fun j => j ≤ 30) (fun j => 30 - j) (fun j => [.vec 1 0 (n + j), .vec 1 1 (n + j), .frz 2 n n (rowPt P), .s (.bool false), .junk, i64 (j : Nat), .junk, .junk]) (fun j => apB28 n j c Z) 0 (Nat.zero_le _) (σ := [some 0, some 1]) (fz := []) (wk _ _ _ _ (blks := .cons (bs_vec rfl fun j hj => ?_) (.cons (bs_vec rfl fun j hj => ?_) .nil))) ?_
 ·show rowZ c j = rowZ (c ++ []) j
  rw [List.append_nil]
 ·show rowZ Z j = rowZ (Z ++ []) j
  rw [List.append_nil]
 intro k hk
 unfold apB28
 refine s_ass (s_run ?_)
 refine s_cond (fun h2 => ?_) (fun h2 => ?_)
 ·simp only [decide_eq_true_eq] at h2
  have hk30 : k < 30 := by omega
  refine s_skip (s_block ?_)
  refine s_run ?_ (hq := by simp only [room, true_and, and_true]; omega)
  refine e_run ?_ (hq := by simp only [room, true_and, and_true]; omega)
  refine e_run ?_
  refine lp_next (k + 1) (by omega) (σ := [some 3, some 5]) (fz := []) (wk _ _ _ _ (blks := .cons (bs_vec rfl fun j hj => ?_) (.cons (bs_vec rfl fun j hj => ?_) .nil)))
  ·exact rep_push hcl hj
  ·exact rep_push hZl hj
 ·simp only [decide_eq_false_iff_not] at h2
  have hk30 : k = 30 := by omega
  subst hk30
  refine s_exit ?_
  refine s_reg (g_run 2 ?_)
  refine g_scall [1] [] (args' := [.vec 1 0 n, .frz 2 n n (rowPt P)]) (hpc := [.vec 1 (n + 30) (rowZ (Z ++ List.replicate 30 mi9)) true]) (same_own hP hn hs (by omega) fun i hi => ?_) (wk _ [] _ _ (vals := .cons (.one (.vec rfl rfl)) (.cons (.nlv rfl) .nil)) (blks := .cons bs_same .nil)) ?_
  ·rw [rowZ_at (z := zP (P.getD i (0, 0)))]
   rw [List.getD_eq_getElem?_getD, List.getElem?_append_left (by omega), ← List.getD_eq_getElem?_getD, hZ]
   exact mapZ (by omega)
  rintro v hpc' ⟨rfl, rfl⟩
  refine ⟨rfl, rfl, Nat.le_refl _, ?_⟩
  refine g_run 5 ?_
  refine prg_head (v' := cpl mi8) (congrArg cpl (rep_at (j := 0) (k := 30) (x := mi8) hcl (by omega))) ?_
  refine prg_flat (v := .bool true) rfl rfl rfl (by
   show aflat _ _ [.complex .f64 mi8.1 mi8.2, .complex .f64 mi8.1 mi8.2] = _
   rw [flat_ceq]
   rfl) ?_
  refine g_run 7 ?_
  refine prg_head (v' := cpl mi8) (congrArg cpl (rep_at (j := 29) (k := 30) (x := mi8) hcl (by omega))) ?_
  refine prg_flat (v := .bool true) rfl rfl rfl (by
   show aflat _ _ [.complex .f64 mi8.1 mi8.2, .complex .f64 mi8.1 mi8.2] = _
   rw [flat_ceq]
   rfl) ?_
  refine g_end ?_
  exact p_ret (fin rfl)
end Go.Proofs.Ytggaimcopbjdiaa.Graph
namespace Go.Proofs.Ytggaimcopbjdiaa.Graph
open Go.Proofs.Ytggaimcopbjdiaa.AM Go.Proofs.Ytggaimcopbjdiaa.Post
theorem awakeP_ok : PFun E 6 [] (valQ (isV (.s (.bool true)))) := by
 intro F ρ H avs hr ha
 have : avs = [] := List.eq_nil_of_length_eq_zero (by rw [← ha.len]; rfl)
 subst this
 exact runs_done (fun _ => rfl) ⟨F, ρ, [], .s (.bool true), .refl, fun _ _ _ h => h, hr, .fr (.s _), rfl, rfl⟩
theorem LB.small {L : List (Int × Int)} (h : LB L) : ∀ i, i < L.length → SmallP (L.getD i (0, 0)) := fun i hi => by
 have := h.at' i hi
 unfold SmallP
 omega
def pvT (f : Fn) (a b : Int) (x7 x8 : PV) : List PV := [.junk, i64 a, i64 b, .fptr 6 1 (fun _ => cellsF f) 0 0, .s (.bool false), i64 (f.code.length : Nat), .fptr 6 1 (fun _ => Kit.lentCells (toK f)) 0 0, x7, x8, .junk, .junk, .junk, .junk, .junk, .junk, .junk, .junk, .junk, .junk, .junk, .junk, .junk]
theorem chartPaths_ok {f : Fn} (fit : FnFits f) {a b : Int} (hb : in64 b) : PFun E 4 [encF f, i64 a, i64 b] (valQ (isV (.s (.bool true)))) := by
 refine p_fun ?_
 show PTri E false [] _ [encF f, i64 a, i64 b, .junk, .junk, .junk, .junk, .junk, .junk, .junk, .junk, .junk, .junk, .junk, .junk, .junk, .junk, .junk, .junk, .junk, .junk, .junk] _ _
 refine s_run ?_
 refine p_weak [] [0] (T' := [.junk, i64 a, i64 b, .fptr 6 1 (fun _ => cellsF f) 0 0, .s (.bool false), .junk, .junk, .junk, .junk, .junk, .junk, .junk, .junk, .junk, .junk, .junk, .junk, .junk, .junk, .junk, .junk, .junk]) (hp' := []) (wk _ _ _ _ (vals := ?_)) ?_
 ·refine .cons (.one (.junk _)) (.cons (.nlv rfl) (.cons (.nlv rfl) (.cons (.one ?_) (.cons (.nlv rfl) ?_))))
  ·exact .ptrf (.head _) rfl (by omega) rfl (by simp [cellsF]) rfl fun j hj => by
    have : j = 0 := by omega
    subst this; rfl
  ·repeat' (first | exact VSubs.nil | apply VSubs.cons | exact VSub.one (VSub1.junk _))
 refine s_run ?_
 refine s_ass (s_run ?_)
 refine s_cond (fun h => ?_) (fun h => ?_)
 ·refine s_ass (s_reg ?_)
  refine g_call awakeP_ok ?_
  rintro v rfl
  refine ⟨rfl, ?_⟩
  refine g_end ?_
  exact s_ret fin_v
 simp only [gt_iff_lt, decide_eq_false_iff_not] at h
 have h18 : f.code.length ≤ 18 := by omega
 have hf : Fit f.code := ⟨by omega, fit.op, fit.arg⟩
 refine s_skip ?_
 refine s_reg (g_run 1 ?_)
 refine g_call (lentFnK fit.ps fit.rs hf.len) ?_
 rintro v rfl
 refine ⟨rfl, ?_⟩
 refine g_end ?_
 refine p_weak [] [0] (T' := pvT f a b .junk .junk) (hp' := []) (wk _ _ _ _ (vals := ?_)) ?_
 ·refine .cons (.one (.junk _)) (.cons (.nlv rfl) (.cons (.nlv rfl) (.cons (.nlv rfl) (.cons (.nlv rfl) (.cons (.nlv rfl) (.cons (.one ?_) ?_))))))
  ·exact .ptrf (.head _) rfl (by omega) rfl (Nat.le_refl 6) rfl fun j hj => by
    have : j = 0 := by omega
    subst this; rfl
  ·repeat' (first | exact VSubs.nil | apply VSubs.cons | exact VSub.one (VSub1.junk _))
 unfold pvT
 have hlen : ∀ x y : Int, LB (epI f.code x y) := fun x y => epI_LB h18 x y
 refine s_ass (s_run ?_)
 refine s_loop (ι := Nat) (fun k => k ≤ f.code.length + 3) (fun k => f.code.length + 3 - k) (fun k => pvT f a b (i64 ((k : Nat) - 1)) .junk) (fun _ => []) 0 (Nat.zero_le _) (σ := []) (fz := []) (wk _ _ _ _) ?_
 intro k hk
 unfold pvT
 refine s_ass (s_run ?_)
 refine s_cond (fun h2 => ?_) (fun h2 => ?_)
 ·simp only [decide_eq_true_eq] at h2
  have hkn : k < f.code.length + 3 := by omega
  refine s_skip (s_block ?_)
  obtain ⟨x, hx⟩ : ∃ x : Int, (k : Int) - 1 = x := ⟨_, rfl⟩
  have hx1 : -1 ≤ x ∧ x ≤ f.code.length + 1 := by omega
  rw [hx]
  refine s_run ?_
  refine e_loop (ι := Nat) (fun m => m ≤ f.code.length + 3) (fun m => f.code.length + 3 - m) (fun m => pvT f a b (i64 x) (i64 ((m : Nat) - 1))) (fun _ => []) 0 (Nat.zero_le _) (σ := []) (fz := []) (wk _ _ _ _) ?_
  intro m hm
  unfold pvT
  refine s_ass (s_run ?_)
  refine s_cond (fun h3 => ?_) (fun h3 => ?_)
  ·simp only [decide_eq_true_eq] at h3
   have hmn : m < f.code.length + 3 := by omega
   refine s_skip (s_block ?_)
   obtain ⟨y, hy⟩ : ∃ y : Int, (m : Int) - 1 = y := ⟨_, rfl⟩
   have hy1 : -1 ≤ y ∧ y ≤ f.code.length + 1 := by omega
   have hy64 : in64 y := by simp only [in64]; omega
   rw [hy]
   refine s_reg (g_run 1 ?_)
   refine prg_cast (v := lentV f) (v' := encF f) lent_enc ?_
   refine g_call (path_ok' hf (by omega) x y) ?_
   rintro v ⟨hT, rfl⟩
   refine ⟨rfl, ?_⟩
   refine g_end ?_
   refine s_reg (g_run 1 ?_)
   refine g_call (rPath_ok hf (by omega) (a := x) hy64 hT) ?_
   rintro v rfl
   refine ⟨rfl, ?_⟩
   refine g_end ?_
   refine s_drw (g_run 1 ?_)
   refine prg_head (v' := .s (.bool false)) (by simp) ?_
   refine g_run 2 ?_
   refine g_call (same_frz (hlen x y).small rfl (by have := (hlen x y).len; omega)) ?_
   rintro v rfl
   refine ⟨rfl, ?_⟩
   by_cases hm : y ∈ nextI f.code x
   ·rw [decide_eq_true hm]
    refine g_run 5 ?_
    refine prg_cast (v := lentV f) (v' := encF f) lent_enc ?_
    refine g_run 2 ?_
    refine g_call (length_ok hf h18 x y) ?_
    rintro v rfl
    refine ⟨rfl, ?_⟩
    refine g_run 3 ?_
    refine g_call (rlength_ok hf h18 (a := x) hy64 hT) ?_
    rintro v rfl
    refine ⟨rfl, ?_⟩
    refine g_run 1 ?_
    refine prg_head (v' := .s (.bool false)) (by simp) ?_
    refine g_end ?_
    refine e_f (p_skip (e_run ?_ (hq := by simp only [true_and, and_true, in64]; omega)))
    refine lp_next (m + 1) (by omega) (σ := []) (fz := []) (wk _ _ _ _ (vals := ?_))
    (try dsimp only [pvT])
    rw [show ((m + 1 : Nat) : Int) - 1 = y + 1 by omega]
    repeat' (first | exact VSubs.nil | apply VSubs.cons | exact VSub.one (VSub1.junk _) | exact VSub.nlv rfl)
   ·rw [decide_eq_false hm]
    refine g_end ?_
    refine e_f (p_skip (e_run ?_ (hq := by simp only [true_and, and_true, in64]; omega)))
    refine lp_next (m + 1) (by omega) (σ := []) (fz := []) (wk _ _ _ _ (vals := ?_))
    (try dsimp only [pvT])
    rw [show ((m + 1 : Nat) : Int) - 1 = y + 1 by omega]
    repeat' (first | exact VSubs.nil | apply VSubs.cons | exact VSub.one (VSub1.junk _) | exact VSub.nlv rfl)
  ·simp only [decide_eq_false_iff_not] at h3
   refine s_exit ?_
   refine e_run ?_ (hq := by simp only [true_and, and_true, in64]; omega)
   refine lp_next (k + 1) (by omega) (σ := []) (fz := []) (wk _ _ _ _ (vals := ?_))
   (try dsimp only [pvT])
   rw [show ((k + 1 : Nat) : Int) - 1 = x + 1 by omega]
   repeat' (first | exact VSubs.nil | apply VSubs.cons | exact VSub.one (VSub1.junk _) | exact VSub.nlv rfl)
 simp only [decide_eq_false_iff_not] at h2
 refine s_exit ?_
 refine s_reg (g_run 1 ?_)
 refine prg_cast (v := lentV f) (v' := encF f) lent_enc ?_
 refine g_scall [] [] (args' := [encF f, i64 a, i64 b]) (hpc := []) (pathO_ok hf (by omega) a b) ⟨rfl, rfl, rfl, .cons (.nlv rfl) (.cons (.nlv rfl) (.cons (.nlv rfl) .nil)), .nil⟩ ?_
 rintro v hpc' ⟨rfl, rfl, hT⟩
 refine ⟨rfl, rfl, Nat.zero_le _, ?_⟩
 refine g_end ?_
 refine s_reg (g_run 1 ?_)
 refine prg_cast (v := lentV f) (v' := encF f) lent_enc ?_
 refine g_scall [] [] (args' := [encF f, i64 a, i64 b]) (hpc := []) (pathO_ok hf (by omega) a b) ⟨rfl, rfl, rfl, .cons (.nlv rfl) (.cons (.nlv rfl) (.cons (.nlv rfl) .nil)), .nil⟩ ?_
 rintro v hpc' ⟨rfl, rfl, _⟩
 refine ⟨rfl, rfl, Nat.zero_le _, ?_⟩
 refine g_end ?_
 refine s_reg (g_run 1 ?_)
 refine g_call (rPath_ok hf (by omega) (a := a) hb hT) ?_
 rintro v rfl
 refine ⟨rfl, ?_⟩
 refine g_end ?_
 have hLB := hlen a b
 have hsm := hLB.small
 have h4 := hLB.len
 have hR := rlength_ok hf h18 (a := a) hb hT
 have hL := length_ok hf h18 a b
 unfold epZ
 obtain ⟨L, hLe⟩ : ∃ L, epI f.code a b = L := ⟨_, rfl⟩
 rw [hLe] at hLB hsm h4 hR hL ⊢
 obtain ⟨n, hn⟩ : ∃ n, L.length = n := ⟨_, rfl⟩
 have hap := apart28_ok hsm hn (by omega) (Z := L.map zP) rfl
 rw [List.length_map, hn]
 have hPz : encPt L = .frz 2 n n (rowPt L) := by unfold encPt; rw [hn]
 refine s_drw (g_run 1 ?_)
 refine prg_head (v' := .s (.bool true)) (by simp) ?_
 refine g_run 2 ?_
 rw [hPz] at hap ⊢
 refine g_scall [0] [] (args' := [.vec 1 0 n, .frz 2 n n (rowPt L)]) (hpc := [.vec 1 n (rowZ (L.map zP)) true]) (same_own hsm hn (by omega) (Nat.le_refl _) fun i hi => rowZ_at (mapZ (by omega))) (wk _ [] _ _ (vals := .cons (.one (.vec rfl rfl)) (.cons (.nlv rfl) .nil)) (blks := .cons bs_same .nil)) ?_
 rintro v hpc' ⟨rfl, rfl⟩
 refine ⟨rfl, rfl, Nat.le_refl _, ?_⟩
 refine g_run 2 ?_
 refine prg_cast (v := lentV f) (v' := encF f) lent_enc ?_
 refine g_run 2 ?_
 refine g_call hL ?_
 rintro v rfl
 refine ⟨rfl, ?_⟩
 refine g_run 3 ?_
 refine g_call hR ?_
 rintro v rfl
 refine ⟨rfl, ?_⟩
 refine g_run 1 ?_
 refine prg_head (v' := .s (.bool true)) (by simp) ?_
 refine g_run 2 ?_
 refine g_run 1 ?_
 refine g_call (keptFnK fit.ps fit.rs hf.len) ?_
 rintro v rfl
 refine ⟨rfl, ?_⟩
 refine g_run 4 ?_
 refine prg_give hap ?_
 rintro v hp' md' cnt' rfl
 refine ⟨rfl, ?_⟩
 refine g_pureD 1 fun O1 => ?_
 refine g_call awakeP_ok ?_
 rintro v rfl
 refine ⟨rfl, ?_⟩
 refine g_pureD 1 fun O2 => ?_
 refine g_fin ?_
 exact p_ret fin_v
end Go.Proofs.Ytggaimcopbjdiaa.Graph
