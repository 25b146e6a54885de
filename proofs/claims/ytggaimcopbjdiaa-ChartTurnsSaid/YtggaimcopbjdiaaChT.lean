/- chart.columns: of all nodes. chart.at, chart.Places: of one's own. chart.Turned: places turned by quarters. The law on turns. PUT TOGETHER by merge.py. -/
import Derived.Test.YtggaimcopbjdiaaRegOf
import Derived.Test.YtggaimcopbjdiaaPostMk
import Derived.Test.YtggaimcopbjdiaaChI
import Derived.Test.YtggaimcopbjdiaaTabC
import Derived.Test.YtggaimcopbjdiaaRegOpen
set_option linter.unusedVariables false
set_option linter.unusedSimpArgs false
set_option maxRecDepth 10000
namespace Go.Proofs.Ytggaimcopbjdiaa.Graph
open Go.Proofs.Ytggaimcopbjdiaa.AM Go.Proofs.Ytggaimcopbjdiaa.Post
/-- What governs each place: how many. -/
noncomputable def colF (code : List (Int × Int)) : List Int := colN (fun b => ofL code b) (code.length + 1) code.length
theorem ofL_nodup (code : List (Int × Int)) (b : Nat) : (ofL code b).Nodup := of_nodup
theorem ofL_lt {code : List (Int × Int)} {b a : Nat} (h : a ∈ ofL code b) : a < code.length := (of_mem.1 h).1
theorem colF_len (code : List (Int × Int)) : (colF code).length = code.length + 1 := colN_len _ _ _
theorem colF_at (code : List (Int × Int)) (j : Nat) : 0 ≤ (colF code).getD j 0 ∧ (colF code).getD j 0 ≤ code.length :=
  colN_at (fun b => ofL_nodup code b) (fun b a h => by have := ofL_lt h; omega) _ j
theorem colB_snoc (os : List Nat) (l : List Int) (a : Nat) : colB (os ++ [a]) l = incAt (colB os l) a := by
  unfold colB
  rw [List.foldl_append]; rfl
def cT (f : Fn) (x3 x4 x5 x6 x7 x9 x10 x11 : PV) : List PV := [.junk, .fptr 6 1 (fun _ => cellsF f) 0 0, .s (.slice none 0 0), x3, x4, x5, x6, x7, .junk, x9, x10, x11, .junk]
theorem columns_ok {f : Fn} (hf : Fit f.code) (h25 : f.code.length ≤ 25) : PFun E 24 [encF f] (valQ (isV (encI (colF f.code)))) := by
  obtain ⟨n, hn⟩ : ∃ n, f.code.length = n := ⟨_, rfl⟩
  have hn' := hn
  refine p_fun ?_
  show PTri E false [] _ [encF f, .junk, .junk, .junk, .junk, .junk, .junk, .junk, .junk, .junk, .junk, .junk, .junk] _ _
  refine s_run ?_
  refine p_weak [] [0] (T' := cT f .junk .junk .junk .junk .junk .junk .junk .junk) (hp' := []) (wk _ _ _ _ (vals := ?_)) ?_
  · refine .cons (.one (.junk _)) (.cons (.one ?_) (.cons (.nlv rfl) ?_))
    · exact .ptrf (.head _) rfl (by omega) rfl (by simp [cellsF]) rfl fun j hj => by
        have : j = 0 := by omega
        subst this; rfl
    · repeat' (first | exact VSubs.nil | apply VSubs.cons | exact VSub.one (VSub1.junk _))
  unfold cT
  refine s_reg (g_run 4 ?_)
  refine prg_head (v' := i64 (n + 1 : Nat)) (by rw [← hn]; rfl) ?_
  refine prg_mkx (n := n + 1) rfl rfl rfl (by omega) ?_
  refine g_end ?_
  refine s_ass (s_run ?_)
  obtain ⟨os, hos⟩ : ∃ os : Nat → List Nat, os = fun b => ofL f.code b := ⟨_, rfl⟩
  have hcf : colF f.code = colN os (n + 1) n := by unfold colF; rw [hn, hos]
  rw [hcf, hn]
  refine s_loop (ι := Nat) (fun b => b ≤ n) (fun b => n - b) (fun b => cT f (.exv 1 0 (n + 1)) .junk .junk (i64 (n : Nat)) (i64 (b : Nat)) .junk .junk .junk) (fun b => [.vec 1 (n + 1) (rowI .i64 (colN os (n + 1) b)) true]) 0 (Nat.zero_le _) (σ := [some 0]) (fz := []) (wk _ _ _ _ (vals := ?_) (blks := .cons (bs_vec rfl fun j hj => ?_) .nil)) ?_
  · (try dsimp only [cT])
    repeat' (first | exact VSubs.nil | apply VSubs.cons | exact VSub.one (VSub1.junk _) | exact VSub.nlv rfl | exact VSub.one (VSub1.exv rfl rfl))
  · show [i64 0] = rowI .i64 (List.replicate (n + 1) 0) j
    simp only [rowI, List.getD_eq_getElem?_getD, List.getElem?_replicate]
    rw [if_pos hj]; rfl
  intro b hb
  unfold cT
  refine s_run ?_
  refine s_cond (fun h => ?_) (fun h => ?_)
  rotate_left
  · simp only [decide_eq_false_iff_not] at h
    have hbn : b = n := by omega
    subst hbn
    refine s_exit ?_
    refine s_run ?_
    have hl : (colN os (b + 1) b).length = b + 1 := colN_len _ _ _
    refine p_weak [] [0] (T' := [.junk, .junk, encI (colN os (b + 1) b), .junk, .junk, .junk, .junk, .junk, .junk, .junk, .junk, .junk, .junk]) (hp' := []) (wk _ _ _ _ (vals := ?_)) ?_
    · refine .cons (.one (.junk _)) (.cons (.one (.junk _)) (.cons (.one ?_) ?_))
      · exact .exvf (.head _) rfl hl.symm (Nat.le_refl _) fun _ _ => rfl
      · repeat' (first | exact VSubs.nil | apply VSubs.cons | exact VSub.one (VSub1.junk _))
    exact p_ret fin_v
  simp only [decide_eq_true_eq] at h
  have hbn : b < n := by omega
  refine s_skip (s_block ?_)
  refine s_run ?_
  refine s_reg (g_run 1 ?_)
  refine g_call (of_ok hf (by omega) (b := b) (by omega)) ?_
  rintro v ⟨hT, rfl⟩
  refine ⟨rfl, ?_⟩
  have eos : ofL f.code b = os b := by rw [hos]
  rw [eos]
  obtain ⟨m, hm⟩ : ∃ m, (os b).length = m := ⟨_, rfl⟩
  unfold encI
  rw [natI_len, hm]
  refine g_end ?_
  have hlt : ∀ a, a ∈ os b → a < n := fun a ha => by rw [← eos] at ha; have := ofL_lt ha; omega
  have hml : m ≤ n := by
    rw [← hm]
    exact nodup_lt (by rw [← eos]; exact ofL_nodup _ _) hlt
  refine e_loop (ι := Nat) (fun k => k ≤ m) (fun k => m - k) (fun k => cT f (.exv 1 0 (n + 1)) .junk .junk (i64 (n : Nat)) (i64 (b : Nat)) (.frz 1 m m (rowI .i64 (natI (os b)))) (i64 (m : Nat)) (i64 (k : Nat))) (fun k => [.vec 1 (n + 1) (rowI .i64 (colB ((os b).take k) (colN os (n + 1) b))) true]) 0 (Nat.zero_le _) (σ := [some 0]) (fz := []) (wk _ _ _ _ (vals := ?_) (blks := .cons (bs_vec rfl fun j hj => rfl) .nil)) ?_
  · (try dsimp only [cT])
    repeat' (first | exact VSubs.nil | apply VSubs.cons | exact VSub.one (VSub1.junk _) | exact VSub.nlv rfl | exact VSub.one (VSub1.exv rfl rfl))
  intro k hk
  unfold cT
  refine s_run ?_
  refine s_cond (fun h2 => ?_) (fun h2 => ?_)
  · simp only [decide_eq_true_eq] at h2
    have hkm : k < m := by omega
    have hkl : k < (os b).length := by omega
    obtain ⟨a, ha⟩ : ∃ a, (os b)[k]? = some a := ⟨_, List.getElem?_eq_getElem hkl⟩
    have han : a < n := hlt a (List.mem_of_getElem? ha)
    have hna : (natI (os b)).getD k 0 = ((a : Nat) : Int) := by
      unfold natI
      rw [List.getD_eq_getElem?_getD, List.getElem?_map, ha]; rfl
    have htk : (os b).take (k + 1) = (os b).take k ++ [a] := by rw [List.take_add_one, ha]; rfl
    obtain ⟨cur, hcur⟩ : ∃ cur, colB ((os b).take k) (colN os (n + 1) b) = cur := ⟨_, rfl⟩
    have hcl : cur.length = n + 1 := by rw [← hcur, colB_len, colN_len]
    rw [hcur]
    refine s_skip (s_block ?_)
    refine s_reg (g_run 2 ?_)
    rw [hna]
    refine g_end ?_
    have hca : 0 ≤ cur.getD a 0 ∧ cur.getD a 0 ≤ n + 1 := by
      have := colB_at ((os b).take k) (colN os (n + 1) b) ((List.take_sublist _ _).nodup (by rw [← eos]; exact ofL_nodup _ _)) (fun x hx => by rw [colN_len]; have := hlt x (List.mem_of_mem_take hx); omega) a
      rw [hcur] at this
      have q := colN_at (os := os) (n := n + 1) (fun b => by rw [hos]; exact ofL_nodup _ _) (fun b a h => by rw [hos] at h; have := ofL_lt h; omega) b a
      have e1 : (if a ∈ (os b).take k then (1 : Int) else 0) ≤ 1 := by split <;> omega
      omega
    refine e_run ?_ (hq := by simp only [true_and, and_true, in64]; omega)
    refine e_run ?_
    refine lp_next (k + 1) (by omega) (σ := [some 0]) (fz := []) (wk _ _ _ _ (vals := ?_) (blks := .cons (bs_vec rfl fun j hj => ?_) .nil))
    · (try dsimp only [cT])
      repeat' (first | exact VSubs.nil | apply VSubs.cons | exact VSub.one (VSub1.junk _) | exact VSub.nlv rfl | exact VSub.one (VSub1.exv rfl rfl))
    · rw [htk, colB_snoc, hcur]
      exact row1_set (en := fun b => .s (.int .i64 b)) (d := 0) (xs := cur) (c := a) (x := cur.getD a 0 + 1) _ rfl (by omega)
  · simp only [decide_eq_false_iff_not] at h2
    have hkm : k = m := by omega
    subst hkm
    rw [List.take_of_length_le (by omega)]
    refine s_exit ?_
    refine e_run ?_
    refine lp_next (b + 1) (by omega) (σ := [some 0]) (fz := []) (wk _ _ _ _ (vals := ?_) (blks := .cons (bs_vec rfl fun j hj => rfl) .nil))
    (try dsimp only [cT])
    repeat' (first | exact VSubs.nil | apply VSubs.cons | exact VSub.one (VSub1.junk _) | exact VSub.nlv rfl | exact VSub.one (VSub1.exv rfl rfl))
end Go.Proofs.Ytggaimcopbjdiaa.Graph

namespace Go.Proofs.Ytggaimcopbjdiaa.Graph
open Go.Proofs.Ytggaimcopbjdiaa.AM Go.Proofs.Ytggaimcopbjdiaa.Post
def cpl (z : Nat × Nat) : PV := .s (.complex .f64 z.1 z.2)
def rowZ (l : List (Nat × Nat)) : Nat → List PV := row1 cpl (0, 0) l
def encZ (l : List (Nat × Nat)) : PV := .frz 1 l.length l.length (rowZ l)
theorem at_ok {c a : Int} (h1 : -9223372036854775807 ≤ a) (h2 : a ≤ 9223372036854775807) : PFun E 25 [i64 c, i64 a] (valQ (isV (cpl (zb c, zb (-a))))) := by
  refine p_fun ?_
  show PTri E false [] _ [i64 c, i64 a, .junk] _ _
  refine s_run ?_
  refine s_reg ?_
  refine prg_flat (v := .float .f64 (zb c)) rfl rfl rfl (flat_conv Try.underlying3 Try.underlying33 c) ?_
  refine prg_flat (v := .int .i64 (-a)) rfl rfl rfl (flat_ineg h1 h2) ?_
  refine prg_flat (v := .float .f64 (zb (-a))) rfl rfl rfl (flat_conv Try.underlying3 Try.underlying33 (-a)) ?_
  refine prg_flat (v := .complex .f64 (zb c) (zb (-a))) rfl rfl rfl flat_cplx ?_
  refine g_end ?_
  exact p_ret fin_v
theorem clipZ_ok {n : Nat} (f : Nat → List PV) (t : Bool) : PCall E [0] 26 [.vec 1 0 n] [.vec 1 n f t] (fun v hp => v = .exv 1 0 n ∧ hp = [.vec 1 n f t]) := by
  refine p_fn ?_
  show PTri E false [0] _ [.vec 1 0 n, .junk] _ _
  refine s_run ?_
  refine s_reg (g_run 2 ?_)
  refine prg_clip rfl rfl rfl ?_
  refine g_end ?_
  exact p_ret (fin ⟨rfl, rfl⟩)
theorem plcZ_len (cols : List Int) : (plcZ cols).length = cols.length := by unfold plcZ; rw [List.length_map, List.length_range]
theorem plcZ_take {cols : List Int} {k : Nat} (hk : k < cols.length) : (plcZ cols).take (k + 1) = (plcZ cols).take k ++ [(zb (cols.getD k 0), zb (-((k : Nat) : Int)))] := by
  have : (plcZ cols)[k]? = some (zb (cols.getD k 0), zb (-((k : Nat) : Int))) := by
    simp [plcZ, hk]
  rw [List.take_add_one, this]; rfl
def pT (f : Fn) (cols : List Int) (l x4 x5 x8 : PV) : List PV := [.junk, .fptr 6 1 (fun _ => cellsF f) 0 0, .s (.slice none 0 0), l, x4, x5, encI cols, i64 (cols.length : Nat), x8, .junk]
theorem placesO_ok {f : Fn} (hf : Fit f.code) (h25 : f.code.length ≤ 25) : PCall E [] 7 [encF f] [] (fun v hp => v = .exv 1 0 (colF f.code).length ∧ hp = [.vec 1 (colF f.code).length (rowZ (plcZ (colF f.code))) true]) := by
  refine p_call (fun _ _ => rfl) rfl ?_
  show PTri E false [] _ [encF f, .junk, .junk, .junk, .junk, .junk, .junk, .junk, .junk, .junk] _ _
  refine s_run ?_
  refine s_run ?_
  refine p_weak [] [0] (T' := [.junk, .fptr 6 1 (fun _ => cellsF f) 0 0, .s (.slice none 0 0), .s (.slice none 0 0), .junk, .junk, .junk, .junk, .junk, .junk]) (hp' := []) (wk _ _ _ _ (vals := ?_)) ?_
  · refine .cons (.one (.junk _)) (.cons (.one ?_) (.cons (.nlv rfl) (.cons (.nlv rfl) ?_)))
    · exact .ptrf (.head _) rfl (by omega) rfl (by simp [cellsF]) rfl fun j hj => by
        have : j = 0 := by omega
        subst this; rfl
    · repeat' (first | exact VSubs.nil | apply VSubs.cons | exact VSub.one (VSub1.junk _))
  refine s_ass (s_reg (g_run 1 ?_))
  refine g_call (columns_ok hf h25) ?_
  rintro v rfl
  refine ⟨rfl, ?_⟩
  have hcl := colF_len f.code
  obtain ⟨cols, hcols⟩ : ∃ cols, colF f.code = cols := ⟨_, rfl⟩
  rw [hcols] at hcl ⊢
  refine g_end ?_
  obtain ⟨Z, hZ⟩ : ∃ Z, plcZ cols = Z := ⟨_, rfl⟩
  have hZl : Z.length = cols.length := by rw [← hZ, plcZ_len]
  rw [hZ]
  refine s_loop (ι := Nat) (fun k => k ≤ cols.length) (fun k => cols.length - k) (fun k => pT f cols (.vec 1 0 k) .junk .junk (i64 (k : Nat))) (fun k => [.vec 1 k (rowZ (Z.take k)) true]) 0 (Nat.zero_le _) (σ := [none]) (fz := []) (wk _ _ _ _ (blks := .cons (.nil rfl) .nil)) ?_
  intro k hk
  unfold pT
  refine s_run ?_
  refine s_cond (fun h => ?_) (fun h => ?_)
  · simp only [decide_eq_true_eq] at h
    have hkl : k < cols.length := by omega
    refine s_skip (s_block ?_)
    refine s_run ?_
    refine e_reg ?_
    refine g_call (at_ok (c := cols.getD k 0) (a := (k : Nat)) (by omega) (by omega)) ?_
    rintro v rfl
    refine ⟨rfl, ?_⟩
    refine g_end ?_ (hq := by simp only [room, true_and, and_true]; omega)
    refine e_run ?_
    have htl : (Z.take k).length = k := by rw [List.length_take]; omega
    refine lp_next (k + 1) (by omega) (σ := [some 2]) (fz := []) (wk _ _ _ _ (blks := .cons (bs_vec rfl fun j hj => ?_) .nil))
    have := row1_push (en := cpl) (d := (0, 0)) (xs := Z.take k) (x := (zb (cols.getD k 0), zb (-((k : Nat) : Int)))) (i := j) (by rw [htl]; exact hj)
    rw [htl] at this
    rw [← hZ, plcZ_take hkl, hZ]
    exact this
  · simp only [decide_eq_false_iff_not] at h
    have hkl : k = cols.length := by omega
    rw [List.take_of_length_le (by omega), hkl]
    refine s_exit ?_
    refine s_reg ?_
    refine g_scall [0] [] (args' := [.vec 1 0 cols.length]) (hpc := [.vec 1 cols.length (rowZ Z) true]) (clipZ_ok _ _) ⟨rfl, rfl, rfl, .cons (.one (.vec rfl rfl)) .nil, .cons bs_same .nil⟩ ?_
    rintro v hpc' ⟨rfl, rfl⟩
    refine ⟨rfl, rfl, Nat.le_refl _, ?_⟩
    refine g_end ?_
    exact p_ret (fin ⟨rfl, rfl⟩)
theorem places_ok {f : Fn} (hf : Fit f.code) (h25 : f.code.length ≤ 25) : PFun E 7 [encF f] (valQ (isV (encZ (plcZ (colF f.code))))) := by
  refine call_post (PCall.mono (placesO_ok hf h25) ?_)
  rintro v hp ⟨rfl, rfl⟩
  have h := plcZ_len (colF f.code)
  refine ⟨[], [0], encZ (plcZ (colF f.code)), [], ⟨rfl, rfl, rfl, .cons (.one ?_) .nil, .nil⟩, rfl, rfl⟩
  unfold encZ
  exact .exvf (.head _) rfl h.symm (Nat.le_refl _) fun _ _ => rfl
end Go.Proofs.Ytggaimcopbjdiaa.Graph

namespace Go.Proofs.Ytggaimcopbjdiaa.Graph
open Go.Proofs.Ytggaimcopbjdiaa.AM Go.Proofs.Ytggaimcopbjdiaa.Post
theorem getD_map {α β : Type} {l : List α} {g : α → β} {i : Nat} (hi : i < l.length) (a : α) (b : β) : (l.map g).getD i b = g (l.getD i a) := by
  rw [List.getD_eq_getElem?_getD, List.getD_eq_getElem?_getD, List.getElem?_map, List.getElem?_eq_getElem hi]; rfl
def qT (m : Nat) (n : Nat) (i x5 x9 x10 : PV) : List PV := [.junk, .junk, .junk, .s (.slice none 0 0), .exv 1 0 n, x5, i64 (m : Nat), i, .junk, x9, x10, .junk]
theorem turned_ok {f : Fn} (hf : Fit f.code) (h25 : f.code.length ≤ 25) (q : Int) : PFun E 8 [encF f, i64 q] (valQ fun v => ∃ l, v = encZ l ∧ RpL l ((plcI (colF f.code)).map (rotN (q % 4).toNat))) := by
  have hcl := colF_len f.code
  have hpo := plc_ok (cols := colF f.code) (by omega) (fun j => by have := colF_at f.code j; omega)
  obtain ⟨P, hP⟩ : ∃ P, plcI (colF f.code) = P := ⟨_, rfl⟩
  obtain ⟨Z, hZ⟩ : ∃ Z, plcZ (colF f.code) = Z := ⟨_, rfl⟩
  obtain ⟨n, hn⟩ : ∃ n, (colF f.code).length = n := ⟨_, rfl⟩
  rw [hP, hZ] at hpo
  have hPl : P.length = n := by rw [← hP, ← hn]; simp [plcI]
  have hZl : Z.length = n := by rw [← hZ, ← hn, plcZ_len]
  obtain ⟨m, hm⟩ : ∃ m, (q % 4).toNat = m := ⟨_, rfl⟩
  have hm4 : m < 4 := by omega
  have hq4 := rem4_in q
  rw [hP, hm]
  refine p_fun ?_
  show PTri E false [] _ [encF f, i64 q, .junk, .junk, .junk, .junk, .junk, .junk, .junk, .junk, .junk, .junk] _ _
  refine s_run ?_
  refine s_reg (g_run 1 ?_)
  refine g_scall [] [] (args' := [encF f]) (hpc := []) (placesO_ok hf h25) ⟨rfl, rfl, rfl, .cons (.nlv rfl) .nil, .nil⟩ ?_
  rintro v hpc' ⟨rfl, rfl⟩
  rw [hZ, hn]
  refine ⟨rfl, rfl, Nat.zero_le _, ?_⟩
  refine g_end ?_
  refine s_ass (s_reg (g_run 1 ?_))
  refine g_run 1 ?_ (hq := by simp only [true_and, and_true, in64]; omega)
  refine g_run 1 ?_
  refine prg_head (v' := i64 (m : Nat)) (by show PV.s (.int .i64 ((q.tmod 4 + 4).tmod 4)) = _; rw [rem4]; unfold i64; congr 2; omega) ?_
  refine g_end ?_
  refine s_loop (ι := Nat × List (Nat × Nat)) (fun j => j.1 ≤ m ∧ RpL j.2 (P.map (rotN j.1))) (fun j => m - j.1) (fun j => qT m n (i64 (j.1 : Nat)) .junk .junk .junk) (fun j => [.vec 1 n (rowZ j.2) true]) (0, Z) ⟨Nat.zero_le _, ?_⟩ (σ := [some 1]) (fz := []) (wk _ _ _ _ (vals := ?_) (blks := .cons (bs_vec rfl fun j hj => rfl) .nil)) ?_
  · refine ⟨by rw [List.length_map]; exact hpo.len, fun i hi => ?_⟩
    rw [List.length_map] at hi
    rw [getD_map hi (0, 0)]
    exact hpo.at' i hi
  · (try dsimp only [qT])
    repeat' (first | exact VSubs.nil | apply VSubs.cons | exact VSub.one (VSub1.junk _) | exact VSub.nlv rfl | exact VSub.one (VSub1.exv rfl rfl))
  rintro ⟨i, l⟩ ⟨him, hl⟩
  dsimp only at him hl
  show PTri E false [] _ (qT m n (i64 (i : Nat)) .junk .junk .junk) [.vec 1 n (rowZ l) true] _
  have hll : l.length = n := by rw [hl.len, List.length_map, hPl]
  unfold qT
  refine s_run ?_
  refine s_cond (fun h => ?_) (fun h => ?_)
  rotate_left
  · simp only [decide_eq_false_iff_not] at h
    have him' : i = m := by omega
    subst him'
    refine s_exit ?_
    refine s_run ?_
    refine p_weak [] [0] (T' := [.junk, .junk, .junk, encZ l, .junk, .junk, .junk, .junk, .junk, .junk, .junk, .junk]) (hp' := []) (wk _ _ _ _ (vals := ?_)) ?_
    · refine .cons (.one (.junk _)) (.cons (.one (.junk _)) (.cons (.one (.junk _)) (.cons (.one ?_) ?_)))
      · exact .exvf (.head _) rfl hll.symm (Nat.le_refl _) fun _ _ => rfl
      · repeat' (first | exact VSubs.nil | apply VSubs.cons | exact VSub.one (VSub1.junk _))
    exact p_ret (fin_r (R := fun v => ∃ l, v = encZ l ∧ RpL l (P.map (rotN i))) ⟨l, rfl, hl⟩)
  simp only [decide_eq_true_eq] at h
  refine s_skip (s_block ?_)
  refine s_run ?_
  refine e_loop (ι := Nat × List (Nat × Nat)) (fun j => j.1 ≤ n ∧ j.2.length = n ∧ ∀ k, k < n → RpP (j.2.getD k (0, 0)) (if k < j.1 then rot1 (rotN i (P.getD k (0, 0))) else rotN i (P.getD k (0, 0)))) (fun j => n - j.1) (fun j => qT m n (i64 (i : Nat)) .junk (i64 (n : Nat)) (i64 (j.1 : Nat))) (fun j => [.vec 1 n (rowZ j.2) true]) (0, l) ⟨Nat.zero_le _, hll, fun k hk => ?_⟩ (σ := [some 0]) (fz := []) (wk _ _ _ _ (vals := ?_) (blks := .cons (bs_vec rfl fun j hj => rfl) .nil)) ?_
  · rw [if_neg (Nat.not_lt_zero _)]
    have := hl.at' k (by rw [List.length_map, hPl]; exact hk)
    rw [getD_map (by omega) (0, 0)] at this
    exact this
  · (try dsimp only [qT])
    repeat' (first | exact VSubs.nil | apply VSubs.cons | exact VSub.one (VSub1.junk _) | exact VSub.nlv rfl | exact VSub.one (VSub1.exv rfl rfl))
  rintro ⟨k, c⟩ ⟨hkn, hcl', hc⟩
  dsimp only at hkn hcl' hc
  show PTri E false [] _ (qT m n (i64 (i : Nat)) .junk (i64 (n : Nat)) (i64 (k : Nat))) [.vec 1 n (rowZ c) true] _
  unfold qT
  refine s_run ?_
  refine s_cond (fun h2 => ?_) (fun h2 => ?_)
  · simp only [decide_eq_true_eq] at h2
    have hk : k < n := by omega
    have hck := hc k hk
    rw [if_neg (Nat.lt_irrefl _)] at hck
    obtain ⟨w, e1, e2⟩ := hck.mulI
    refine s_skip (s_block ?_)
    refine s_run ?_
    refine e_reg (g_run 2 ?_)
    refine prg_flat (v := .complex .f64 w.1 w.2) rfl rfl rfl (flat_mulI e1) ?_
    refine g_run 2 ?_
    refine g_end ?_
    refine e_run ?_
    refine lp_next (k + 1, c.set k w) ⟨by show k + 1 ≤ n; omega, by show (c.set k w).length = n; rw [List.length_set]; exact hcl', fun j hj => ?_⟩ (hlt := by show n - (k + 1) < n - k; omega) (σ := [some 0]) (fz := []) (wk _ _ _ _ (vals := ?_) (blks := .cons (bs_vec rfl fun j hj => ?_) .nil))
    · show RpP ((c.set k w).getD j (0, 0)) (if j < k + 1 then _ else _)
      by_cases e : k = j
      · subst e
        rw [if_pos (Nat.lt_succ_self _), List.getD_eq_getElem?_getD, List.getElem?_set_self (by omega)]
        exact e2
      · rw [List.getD_eq_getElem?_getD, List.getElem?_set_ne e, ← List.getD_eq_getElem?_getD]
        have := hc j hj
        by_cases e3 : j < k
        · rw [if_pos e3] at this
          rw [if_pos (by omega)]; exact this
        · rw [if_neg e3] at this
          rw [if_neg (by omega)]; exact this
    · (try dsimp only [qT])
      repeat' (first | exact VSubs.nil | apply VSubs.cons | exact VSub.one (VSub1.junk _) | exact VSub.nlv rfl | exact VSub.one (VSub1.exv rfl rfl))
    · exact row1_set (en := cpl) (d := (0, 0)) (xs := c) (c := k) (x := w) _ rfl (by omega)
  · simp only [decide_eq_false_iff_not] at h2
    have hk : k = n := by omega
    subst hk
    refine s_exit ?_
    refine e_run ?_
    refine lp_next (i + 1, c) ⟨by show i + 1 ≤ m; omega, ⟨by show c.length = _; rw [List.length_map, hcl', hPl], fun j hj => ?_⟩⟩ (hlt := by show m - (i + 1) < m - i; omega) (σ := [some 0]) (fz := []) (wk _ _ _ _ (vals := ?_) (blks := .cons (bs_vec rfl fun j hj => rfl) .nil))
    · rw [List.length_map] at hj
      rw [getD_map hj (0, 0)]
      have := hc j (by omega)
      rw [if_pos (by omega)] at this
      exact this
    · (try dsimp only [qT])
      repeat' (first | exact VSubs.nil | apply VSubs.cons | exact VSub.one (VSub1.junk _) | exact VSub.nlv rfl | exact VSub.one (VSub1.exv rfl rfl))
def aT28 (l w : List (Nat × Nat)) (x3 : PV) : List PV := [encZ l, encZ w, .s (.bool false), x3, .junk, .junk, .junk]
theorem are_ok {l w : List (Nat × Nat)} {P : List (Int × Int)} (h1 : RpL l P) (h2 : RpL w P) (hs : P.length < 1000000) : PFun E 9 [encZ l, encZ w] (valQ (isV (.s (.bool true)))) := by
  have e1 := h1.len
  have e2 := h2.len
  refine p_fun ?_
  show PTri E false [] _ [encZ l, encZ w, .junk, .junk, .junk, .junk, .junk] _ _
  refine s_run ?_
  refine s_ass (s_reg (g_run 3 ?_))
  refine prg_head (v' := .s (.bool false)) (by rw [e1, e2]; simp) ?_
  refine g_end ?_
  refine s_f (s_skip ?_)
  refine s_ass (s_run ?_)
  refine s_loop (ι := Nat) (fun k => k ≤ P.length) (fun k => P.length - k) (fun k => aT28 l w (i64 (k : Nat))) (fun _ => []) 0 (Nat.zero_le _) (σ := []) (fz := []) (wk _ _ _ _) ?_
  intro k hk
  unfold aT28
  refine s_ass (s_run ?_)
  refine s_cond (fun h => ?_) (fun h => ?_)
  · simp only [decide_eq_true_eq] at h
    have hkl : k < P.length := by omega
    refine s_skip (s_block ?_)
    refine s_drw (g_run 4 ?_)
    refine prg_flat (v := .bool false) rfl rfl rfl (by
      show aflat _ _ [.complex .f64 (l.getD k (0, 0)).1 (l.getD k (0, 0)).2, .complex .f64 (w.getD k (0, 0)).1 (w.getD k (0, 0)).2] = _
      rw [flat_cneq, (h1.at' k hkl).eq (h2.at' k hkl)]
      simp) ?_
    refine g_end ?_
    refine e_f (p_skip (e_run ?_))
    exact lp_next (k + 1) (by omega) (σ := []) (fz := []) (wk _ _ _ _)
  · simp only [decide_eq_false_iff_not] at h
    refine s_exit ?_
    refine s_run ?_
    exact p_ret fin_v
end Go.Proofs.Ytggaimcopbjdiaa.Graph

namespace Go.Proofs.Ytggaimcopbjdiaa.Graph
open Go.Proofs.Ytggaimcopbjdiaa.AM Go.Proofs.Ytggaimcopbjdiaa.Post
theorem awakeT_ok : PFun E 6 [] (valQ (isV (.s (.bool true)))) := by
  intro F ρ H avs hr ha
  have : avs = [] := List.eq_nil_of_length_eq_zero (by rw [← ha.len]; rfl)
  subst this
  exact runs_done (fun _ => rfl) ⟨F, ρ, [], .s (.bool true), .refl, fun _ _ _ h => h, hr, .fr (.s _), rfl, rfl⟩
theorem map_rot0 : ∀ P : List (Int × Int), P.map (rotN 0) = P
  | [] => rfl
  | p :: P => by rw [List.map_cons, map_rot0 P]; rfl
theorem rot_idx (p q : Int) (P : Int × Int) : rotN (q % 4).toNat (rotN (p % 4).toNat P) = rotN ((p % 4 + q % 4) % 4).toNat P := by
  rw [← rotN_add, rotN_mod]
  congr 1
  omega
def lT28 (f : Fn) (p q : Int) (l a b : List (Nat × Nat)) (m : Nat) (k c i : PV) : List PV := [.junk, i64 p, i64 q, .fptr 6 1 (fun _ => cellsF f) 0 0, .s (.bool false), encZ l, encZ a, encZ b, i64 (m : Nat), k, c, i, .junk, .junk, .junk, .junk, .junk]
theorem chartTurns_ok {f : Fn} (fit : FnFits f) (p q : Int) : PFun E 3 [encF f, i64 p, i64 q] (valQ (isV (.s (.bool true)))) := by
  refine p_fun ?_
  show PTri E false [] _ [encF f, i64 p, i64 q, .junk, .junk, .junk, .junk, .junk, .junk, .junk, .junk, .junk, .junk, .junk, .junk, .junk, .junk] _ _
  refine s_run ?_
  refine p_weak [] [0] (T' := [.junk, i64 p, i64 q, .fptr 6 1 (fun _ => cellsF f) 0 0, .s (.bool false), .junk, .junk, .junk, .junk, .junk, .junk, .junk, .junk, .junk, .junk, .junk, .junk]) (hp' := []) (wk _ _ _ _ (vals := ?_)) ?_
  · refine .cons (.one (.junk _)) (.cons (.nlv rfl) (.cons (.nlv rfl) (.cons (.one ?_) (.cons (.nlv rfl) ?_))))
    · exact .ptrf (.head _) rfl (by omega) rfl (by simp [cellsF]) rfl fun j hj => by
        have : j = 0 := by omega
        subst this; rfl
    · repeat' (first | exact VSubs.nil | apply VSubs.cons | exact VSub.one (VSub1.junk _))
  refine s_ass (s_reg (g_run 4 ?_))
  refine prg_split (fun h => ?_) (fun h => ?_)
  · refine g_end ?_
    refine s_t (s_ass (s_reg ?_))
    refine g_call awakeT_ok ?_
    rintro v rfl
    refine ⟨rfl, ?_⟩
    refine g_end ?_
    exact s_ret fin_v
  simp only [gt_iff_lt, decide_eq_false_iff_not] at h
  have h25 : f.code.length ≤ 25 := by omega
  have hf : Fit f.code := ⟨by omega, fit.op, fit.arg⟩
  refine g_call awakeT_ok ?_
  rintro v rfl
  refine ⟨rfl, ?_⟩
  refine g_end ?_
  refine s_f (s_skip ?_)
  have hcl := colF_len f.code
  have hpo := plc_ok (cols := colF f.code) (by omega) (fun j => by have := colF_at f.code j; omega)
  have hT1 := turned_ok hf h25
  have hPl : (plcI (colF f.code)).length = f.code.length + 1 := by rw [← hcl]; simp [plcI]
  refine s_reg (g_run 1 ?_)
  refine g_call (places_ok hf h25) ?_
  rintro v rfl
  refine ⟨rfl, ?_⟩
  refine g_end ?_
  obtain ⟨P, hP⟩ : ∃ P, plcI (colF f.code) = P := ⟨_, rfl⟩
  obtain ⟨l, hl⟩ : ∃ l, plcZ (colF f.code) = l := ⟨_, rfl⟩
  rw [hP] at hpo hT1 hPl
  rw [hl] at hpo ⊢
  have mapl : ∀ (g : Int × Int → Int × Int), (P.map g).length = f.code.length + 1 := fun g => by rw [List.length_map, hPl]
  refine s_reg (g_run 1 ?_)
  refine g_call (hT1 p) ?_
  rintro v ⟨a, rfl, ha⟩
  refine ⟨rfl, ?_⟩
  refine g_end ?_
  obtain ⟨m, hm⟩ : ∃ m, (q % 4).toNat = m := ⟨_, rfl⟩
  refine s_reg (g_run 2 ?_)
  refine prg_head (v' := i64 (p % 4)) (congrArg i64 (and3 p)) ?_
  refine g_run 1 ?_
  refine prg_head (v' := i64 (q % 4)) (congrArg i64 (and3 q)) ?_
  refine g_run 1 ?_ (hq := by simp only [true_and, and_true, in64]; omega)
  refine g_call (hT1 (p % 4 + q % 4)) ?_
  rintro v ⟨b, rfl, hb⟩
  refine ⟨rfl, ?_⟩
  refine g_end ?_
  have hal := ha.len
  have hbl := hb.len
  have hll := hpo.len
  rw [mapl] at hal hbl
  rw [hPl] at hll
  refine s_ass (s_reg (g_run 3 ?_))
  refine prg_head (v' := .s (.bool false)) (by rw [hal, hll]; simp) ?_
  refine g_run 5 ?_
  refine prg_head (v' := .s (.bool false)) (by rw [hbl, hll]; simp) ?_
  refine g_end ?_
  refine s_f (s_skip ?_)
  refine s_reg (g_run 1 ?_)
  refine prg_head (v' := i64 (m : Nat)) (congrArg i64 (by rw [and3]; omega)) ?_
  refine g_end ?_
  refine s_ass (s_run ?_)
  refine s_loop (ι := Nat) (fun k => k ≤ f.code.length + 1) (fun k => f.code.length + 1 - k) (fun k => lT28 f p q l a b m (i64 (k : Nat)) .junk .junk) (fun _ => []) 0 (Nat.zero_le _) (σ := []) (fz := []) (wk _ _ _ _) ?_
  intro k hk
  unfold lT28
  refine s_ass (s_run ?_)
  refine s_cond (fun h2 => ?_) (fun h2 => ?_)
  rotate_left
  · refine s_exit ?_
    refine s_reg (g_run 2 ?_)
    refine prg_head (v' := i64 (p % 4)) (congrArg i64 (and3 p)) ?_
    refine g_run 1 ?_ (hq := by simp only [true_and, and_true, in64]; omega)
    refine g_call (hT1 (p % 4 + 4)) ?_
    rintro v ⟨c, rfl, hc⟩
    refine ⟨rfl, ?_⟩
    rw [show ((p % 4 + 4) % 4).toNat = (p % 4).toNat by omega] at hc
    refine g_call (are_ok hc ha (by rw [mapl]; omega)) ?_
    rintro v rfl
    refine ⟨rfl, ?_⟩
    refine g_run 1 ?_
    refine g_call (hT1 4) ?_
    rintro v ⟨d, rfl, hd⟩
    refine ⟨rfl, ?_⟩
    have hid : P.map (rotN ((4 : Int) % 4).toNat) = P := by
      rw [show ((4 : Int) % 4).toNat = 0 from rfl]
      exact map_rot0 P
    rw [hid] at hd
    refine g_run 1 ?_
    refine g_call (are_ok hd hpo (by rw [hPl]; omega)) ?_
    rintro v rfl
    refine ⟨rfl, ?_⟩
    refine g_run 2 ?_
    refine g_call (hT1 0) ?_
    rintro v ⟨d, rfl, hd⟩
    refine ⟨rfl, ?_⟩
    have hid : P.map (rotN ((0 : Int) % 4).toNat) = P := by
      rw [show ((0 : Int) % 4).toNat = 0 from rfl]
      exact map_rot0 P
    rw [hid] at hd
    refine g_run 1 ?_
    refine g_call (are_ok hd hpo (by rw [hPl]; omega)) ?_
    rintro v rfl
    refine ⟨rfl, ?_⟩
    refine g_end ?_
    exact p_ret fin_v
  simp only [decide_eq_true_eq] at h2
  have hkn : k < f.code.length + 1 := by omega
  have hak := ha.at' k (by rw [mapl]; exact hkn)
  have hbk := hb.at' k (by rw [mapl]; exact hkn)
  have hlk := hpo.at' k (by rw [hPl]; exact hkn)
  rw [getD_map (by omega) (0, 0)] at hak hbk
  obtain ⟨Pk, hPk⟩ : ∃ Pk, P.getD k (0, 0) = Pk := ⟨_, rfl⟩
  rw [hPk] at hak hbk hlk
  refine s_skip (s_block ?_)
  refine s_run ?_
  refine s_ass (s_run ?_)
  refine s_loop (ι := Nat × (Nat × Nat)) (fun j => j.1 ≤ m ∧ RpP j.2 (rotN j.1 (rotN (p % 4).toNat Pk))) (fun j => m - j.1) (fun j => lT28 f p q l a b m (i64 (k : Nat)) (cpl j.2) (i64 (j.1 : Nat))) (fun _ => []) (0, a.getD k (0, 0)) ⟨Nat.zero_le _, hak⟩ (σ := []) (fz := []) (wk _ _ _ _) ?_
  rintro ⟨i, c⟩ ⟨him, hc⟩
  dsimp only at him hc
  show PTri E false [] _ (lT28 f p q l a b m (i64 (k : Nat)) (cpl c) (i64 (i : Nat))) [] _
  unfold lT28
  refine s_ass (s_run ?_)
  refine s_cond (fun h3 => ?_) (fun h3 => ?_)
  · simp only [decide_eq_true_eq] at h3
    refine s_skip (s_block ?_)
    refine e_reg ?_
    refine prg_flat (v := .float .f64 c.2) rfl rfl rfl flat_im ?_
    refine prg_flat (v := .float .f64 (Op.negFloat .f64 c.2)) rfl rfl rfl flat_neg ?_
    refine prg_flat (v := .float .f64 c.1) rfl rfl rfl flat_re ?_
    refine prg_flat (v := .complex .f64 (Op.negFloat .f64 c.2) c.1) rfl rfl rfl flat_cplx ?_
    refine g_end ?_
    refine e_run ?_
    exact lp_next (i + 1, (Op.negFloat .f64 c.2, c.1)) ⟨by show i + 1 ≤ m; omega, hc.rot⟩ (hlt := by show m - (i + 1) < m - i; omega) (σ := []) (fz := []) (wk _ _ _ _)
  simp only [decide_eq_false_iff_not] at h3
  have him' : i = m := by omega
  subst him'
  refine s_exit ?_
  have heq : rotN i (rotN (p % 4).toNat Pk) = rotN ((p % 4 + q % 4) % 4).toNat Pk := by rw [← hm]; exact rot_idx p q Pk
  rw [heq] at hc
  refine s_drw (g_run 2 ?_)
  refine prg_flat (v := .bool false) rfl rfl rfl (by
    show aflat _ _ [.complex .f64 c.1 c.2, .complex .f64 (b.getD k (0, 0)).1 (b.getD k (0, 0)).2] = _
    rw [flat_cneq, hc.eq hbk]
    simp) ?_
  obtain ⟨u1, u2, u3, v1, v2, v3, v4, v5⟩ := hak.norm
  obtain ⟨w1, w2, w3, x1, x2, x3, x4, x5⟩ := hlk.norm
  rw [rotN_norm] at v4
  refine g_run 4 ?_
  refine prg_flat (v := .float .f64 (a.getD k (0, 0)).1) rfl rfl rfl flat_re ?_
  refine g_run 4 ?_
  refine prg_flat (v := .float .f64 (a.getD k (0, 0)).1) rfl rfl rfl flat_re ?_
  refine prg_flat (v := .float .f64 u1) rfl rfl rfl (flat_arith (op := .mul) v1 (.inr (.inr rfl))) ?_
  refine g_run 4 ?_
  refine prg_flat (v := .float .f64 (a.getD k (0, 0)).2) rfl rfl rfl flat_im ?_
  refine g_run 4 ?_
  refine prg_flat (v := .float .f64 (a.getD k (0, 0)).2) rfl rfl rfl flat_im ?_
  refine prg_flat (v := .float .f64 u2) rfl rfl rfl (flat_arith (op := .mul) v2 (.inr (.inr rfl))) ?_
  refine prg_flat (v := .float .f64 u3) rfl rfl rfl (flat_arith (op := .add) v3 (.inl rfl)) ?_
  refine g_run 4 ?_
  refine prg_flat (v := .float .f64 (l.getD k (0, 0)).1) rfl rfl rfl flat_re ?_
  refine g_run 4 ?_
  refine prg_flat (v := .float .f64 (l.getD k (0, 0)).1) rfl rfl rfl flat_re ?_
  refine prg_flat (v := .float .f64 w1) rfl rfl rfl (flat_arith (op := .mul) x1 (.inr (.inr rfl))) ?_
  refine g_run 4 ?_
  refine prg_flat (v := .float .f64 (l.getD k (0, 0)).2) rfl rfl rfl flat_im ?_
  refine g_run 4 ?_
  refine prg_flat (v := .float .f64 (l.getD k (0, 0)).2) rfl rfl rfl flat_im ?_
  refine prg_flat (v := .float .f64 w2) rfl rfl rfl (flat_arith (op := .mul) x2 (.inr (.inr rfl))) ?_
  refine prg_flat (v := .float .f64 w3) rfl rfl rfl (flat_arith (op := .add) x3 (.inl rfl)) ?_
  refine prg_flat (v := .bool false) rfl rfl rfl (by
    rw [v4, ← x4]
    show aflat _ _ [.float .f64 w3, .float .f64 w3] = _
    rw [flat_fneq, x5]
    rfl) ?_
  refine g_end ?_
  refine e_f (p_skip (e_run ?_))
  exact lp_next (k + 1) (by omega) (σ := []) (fz := []) (wk _ _ _ _)
end Go.Proofs.Ytggaimcopbjdiaa.Graph

