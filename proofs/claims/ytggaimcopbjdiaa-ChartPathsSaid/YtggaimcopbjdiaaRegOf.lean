import Derived.Test.YtggaimcopbjdiaaSrtH
import Derived.Test.YtggaimcopbjdiaaRegDom
set_option linter.unusedVariables false
set_option linter.unusedSimpArgs false
set_option maxRecDepth 10000
namespace Go.Proofs.Ytggaimcopbjdiaa.Graph
open Go.Proofs.Ytggaimcopbjdiaa.AM Go.Proofs.Ytggaimcopbjdiaa.Post
def snocN (l : List Nat) (x : Nat) : List Nat := l ++ [x]
theorem snoc_fold : ∀ (tl l : List Nat), tl.foldl snocN l = l ++ tl
 | [], l => by simp
 | t :: tl, l => by
   rw [List.foldl_cons, snoc_fold tl]
   unfold snocN
   simp
theorem ofT {n : Nat} (hn : n < 1000000) : Tell n 100000000 61 (fun _ => []) (fun q => [.ptr q 0]) false [] (List Nat) List.length (fun l => rowI .i64 (natI l)) snocN (fun k l => l.length ≤ k) := by
 refine ⟨fun h => ⟨.nil, .cons (.ptr h) .nil⟩, fun {k s a} h => by
  unfold snocN
  rw [List.length_append, List.length_singleton]; omega, fun {k s x} hk ha hs => ?_⟩
 show PCall E [0, 1] 61 [i64 (x : Nat), .ptr 0 0] [.cel [.vec 1 1 s.length], .vec 1 s.length (rowI .i64 (natI s)) false] (fun v hp => v = .tup [] ∧ hp = [.cel [.vec 1 2 (snocN s x).length], .dead, .vec 1 (snocN s x).length (rowI .i64 (natI (snocN s x))) false])
 refine p_fn ?_
 show PTri E false [0, 1] _ [i64 (x : Nat), .ptr 0 0] _ _
 refine p_weakD [some 0, some 1, some 1] [] [1] (T' := [i64 (x : Nat), .ptr 0 0]) (hp' := [.cel [.vec 1 2 s.length], .dead, .vec 1 s.length (rowI .i64 (natI s)) false]) (.cons (.nlv rfl) (.cons (.one (.ptr rfl)) .nil)) (.cons (.cel rfl (by simp) rfl (.cons (.one (.vec rfl rfl)) .nil)) (.cons .dead (.cons bs_same .nil))) ?_
 refine p_post ?_
 refine e_run (hq := by simp only [room, true_and, and_true]; omega) ?_
 refine ⟨[some 0, some 1, some 4], [], [.junk, .junk], [.cel [.vec 1 2 (s.length + 1)], .dead, .vec 1 (s.length + 1) (rowI .i64 (natI (s ++ [x]))) false], wk _ [] _ _ (blks := .cons (.cel rfl (by simp) rfl (.cons (.one (.vec rfl (by simp))) .nil)) (.cons .dead (.cons (.vec rfl (by simp) rfl (by simp) (fun h => nomatch h) fun i hi => ?_) .nil))), ?_⟩
 ·rw [natI_snoc]
  have := row1_push (en := i64) (d := 0) (x := ((x : Nat) : Int)) (xs := natI s) (i := i) (by rw [natI_len]; simpa using hi)
  rw [natI_len] at this
  exact this
 ·unfold snocN
  rw [List.length_append, List.length_singleton]; exact fin ⟨rfl, rfl⟩
theorem srt_pair {xs : List Int} (h : Srt 0 xs.length xs) : xs.Pairwise (· ≤ ·) := by
 rw [List.pairwise_iff_getElem]
 intro i j hi hj hij
 have := h i j (Nat.zero_le _) (by omega) hj
 rw [List.getD_eq_getElem?_getD, List.getD_eq_getElem?_getD, List.getElem?_eq_getElem hi, List.getElem?_eq_getElem hj] at this
 exact this
theorem of_pair {code : List (Int × Int)} {b : Nat} : (natI (ofL code b)).Pairwise (· ≤ ·) := by
 have h1 : (ofL code b).Pairwise (· < ·) := List.Pairwise.sublist List.filter_sublist List.pairwise_lt_range
 unfold natI
 rw [List.pairwise_map]
 exact h1.imp fun h => by
  show ((_ : Nat) : Int) ≤ ((_ : Nat) : Int)
  omega
theorem sorted_of {code : List (Int × Int)} {b : Nat} {met : List Int} {tl : List Nat} {us : List Int} (ht : Told code b met tl) (h1 : Sw 0 tl.length (natI tl) us) (h2 : Srt 0 tl.length us) : us = natI (ofL code b) := by
 have hl : us.length = tl.length := h1.len.trans (natI_len _)
 have p1 : tl.Perm (ofL code b) := (List.perm_ext_iff_of_nodup ht.nd of_nodup).2 fun a => by
  rw [ht.iff, of_mem]
  exact ⟨fun h => ⟨reg_lt h, h⟩, fun h => h.2⟩
 have p2 : us.Perm (natI tl) := List.perm_iff_count.2 fun z => h1.count (by rw [natI_len]; exact Nat.le_refl _) z
 have p3 : us.Perm (natI (ofL code b)) := p2.trans (p1.map _)
 exact List.Perm.eq_of_pairwise (le := (· ≤ ·)) (fun a b _ _ h1 h2 => Int.le_antisymm h1 h2) (srt_pair (by rw [hl]; exact h2)) of_pair p3
theorem told_len {code : List (Int × Int)} {b : Nat} {met : List Int} {tl : List Nat} (ht : Told code b met tl) : tl.length ≤ code.length := nodup_lt ht.nd fun a h => reg_lt ((ht.iff a).1 h)
theorem of_ok {f : Fn} (hf : Fit f.code) (h40 : f.code.length < 50) {b : Nat} (hb : b < 4611686018427387904) : PFun E 48 [encF f, i64 (b : Nat)] (valQ fun v => TreeR f.code (nrT f.code) ∧ v = encI (natI (ofL f.code b))) := by
 have f1 := hf.len
 refine p_fun ?_
 show PTri E false [] _ [encF f, i64 (b : Nat), .junk, .junk, .junk] _ _
 refine s_run ?_
 refine s_run ?_
 refine p_weak [some 0, some 1, none] [] (wk _ [] [.junk, i64 (b : Nat), .ptr 0 0, .junk, .ptr 1 0] [.cel (cellsF f), .cel [.vec 1 2 0], .vec 1 0 (rowI .i64 (natI [])) false] (vals := by (repeat' (first | exact VSubs.nil | apply VSubs.cons | exact VSub.one (VSub1.junk _) | exact VSub.nlv rfl | exact VSub.one (VSub1.ptr rfl)))) (blks := .cons bs_cel (.cons (.cel rfl (by simp) rfl (.cons (.one (.nil rfl)) .nil)) (.cons (.nil rfl) .nil)))) ?_
 refine s_reg (g_run 1 ?_)
 refine g_scall [] [] (args' := [encF f]) (hpc := []) (newWalker_ok hf) (wk _ [] _ _ (vals := .cons (.nlv rfl) .nil) (blks := .nil)) ?_
 rintro v hpc' ⟨hT, rfl, rfl⟩
 refine ⟨rfl, rfl, Nat.zero_le _, ?_⟩
 refine g_run 1 ?_
 refine g_scall [3, 4, 1, 2] [] (args' := [.ptr 0 0, i64 (b : Nat), .fn 61 [] [.ptr 2 0]]) (hpc := [eW f.code, eM f.code (List.replicate (f.code.length + 1) 0), .cel [.vec 1 3 0], .vec 1 0 (rowI .i64 (natI [])) false]) (each_ok hT f1 (ofT (n := f.code.length) (by omega)) hb (met := List.replicate (f.code.length + 1) 0) (by simp) (fun a ha => by simp [List.getD_eq_getElem?_getD, List.getElem?_replicate, ha]) (s := []) (k := 0) (Nat.le_refl _) (by omega)) (wk _ [] _ _ (vals := .cons (.one (.ptr rfl)) (.cons (.nlv rfl) (.cons (.fn .nil (.cons (.ptr rfl) .nil)) .nil))) (blks := .cons (.cel rfl (by simp) rfl (.cons (.nlv rfl) (.cons (.nlv rfl) (.cons (.one (.vec rfl rfl)) .nil)))) (.cons bs_same (.cons (.cel rfl (by simp) rfl (.cons (.one (.vec rfl rfl)) .nil)) (.cons bs_same .nil))))) ?_
 rintro v hpc' ⟨rfl, met', tl, ht, rfl⟩
 have hfold : tl.foldl snocN [] = tl := by rw [snoc_fold]; rfl
 rw [hfold]
 have htl := told_len ht
 refine ⟨rfl, rfl, by simp [eO], ?_⟩
 refine g_fin ?_
 refine p_weak [some 1, some 5] [] (wk _ [] [.junk, .junk, .junk, .junk, .ptr 0 0] [.cel [.vec 1 1 tl.length], .vec 1 tl.length (rowI .i64 (natI tl)) false] (vals := by (repeat' (first | exact VSubs.nil | apply VSubs.cons | exact VSub.one (VSub1.junk _) | exact VSub.nlv rfl | exact VSub.one (VSub1.ptr rfl)))) (blks := .cons (.cel rfl (by simp) rfl (.cons (.one (.vec rfl rfl)) .nil)) (.cons bs_same .nil))) ?_
 refine s_reg (g_run 1 ?_)
 refine g_scall [1] [] (args' := [.vec 1 0 tl.length]) (hpc := dH (natI tl) tl.length false) (sort_ok (by omega) (natI_len _)) (wk _ [] _ _ (vals := .cons (.one (.vec rfl rfl)) .nil) (blks := .cons bs_same .nil)) ?_
 rintro v hpc' ⟨us, rfl, u1, rfl, u2⟩
 have hus := sorted_of ht u1 u2
 have hul : us.length = tl.length := u1.len.trans (natI_len _)
 refine ⟨rfl, rfl, Nat.le_refl _, ?_⟩
 refine g_end ?_
 refine p_weak [some 0] [1] (wk _ [1] [.junk, .junk, .junk, .junk, .ptr 0 0] [.cel [encI us]] (vals := by (repeat' (first | exact VSubs.nil | apply VSubs.cons | exact VSub.one (VSub1.junk _) | exact VSub.nlv rfl | exact VSub.one (VSub1.ptr rfl)))) (blks := .cons (.cel rfl (by simp) rfl (.cons (.one (.vecf (.head _) rfl hul.symm (Nat.le_refl _) (Nat.le_of_eq hul) fun i hi => rfl)) .nil)) .nil)) ?_
 rw [hus]
 unfold encI
 refine s_reg (g_run 1 ?_)
 refine g_call (clip_ok _ _ _ (Nat.le_refl _)) ?_
 rintro v rfl
 refine ⟨rfl, ?_⟩
 refine g_end ?_
 exact p_ret (fin_r ⟨hT, rfl⟩)
end Go.Proofs.Ytggaimcopbjdiaa.Graph
