import Derived.Test.YtggaimcopbjdiaaRegNew
set_option linter.unusedVariables false
set_option linter.unusedSimpArgs false
set_option maxRecDepth 10000
namespace Go.Proofs.Ytggaimcopbjdiaa.Graph
open Go.Proofs.Ytggaimcopbjdiaa.AM Go.Proofs.Ytggaimcopbjdiaa.Post
def mark1 (b e x : Nat) (s : List Int × List Nat) (a : Nat) : List Int × List Nat := if a ≠ e ∧ a ≠ x ∧ s.1.getD a 0 ≠ ((b + 1 : Nat) : Int) then (s.1.set a ((b + 1 : Nat) : Int), s.2 ++ [a]) else s
def markL (b e x : Nat) (s : List Int × List Nat) (l : List Nat) : List Int × List Nat := l.foldl (mark1 b e x) s
theorem mark1_len {b e x : Nat} {s : List Int × List Nat} {a : Nat} : (mark1 b e x s a).1.length = s.1.length := by
 unfold mark1; split
 ·exact List.length_set
 ·rfl
theorem markL_len {b e x : Nat} : ∀ {l : List Nat} {s : List Int × List Nat}, (markL b e x s l).1.length = s.1.length
 | [], s => rfl
 | a :: l, s => by
   show (markL b e x (mark1 b e x s a) l).1.length = _
   rw [markL_len, mark1_len]
theorem markL_snoc {b e x : Nat} {l : List Nat} {s : List Int × List Nat} {a : Nat} : markL b e x s (l ++ [a]) = mark1 b e x (markL b e x s l) a := by simp [markL]
theorem mark1_todo {b e x : Nat} {s : List Int × List Nat} {a : Nat} : (mark1 b e x s a).2.length ≤ s.2.length + 1 := by
 unfold mark1; split
 ·simp
 ·exact Nat.le_succ _
theorem markL_todo {b e x : Nat} : ∀ {l : List Nat} {s : List Int × List Nat}, (markL b e x s l).2.length ≤ s.2.length + l.length
 | [], s => Nat.le_refl _
 | a :: l, s => by
   show (markL b e x (mark1 b e x s a) l).2.length ≤ _
   have h1 := markL_todo (b := b) (e := e) (x := x) (l := l) (s := mark1 b e x s a)
   have h2 := mark1_todo (b := b) (e := e) (x := x) (s := s) (a := a)
   simp only [List.length_cons]
   omega
noncomputable def pH (code : List (Int × Int)) (m : Bool) (s : List Int × List Nat) : PH := [.cel [nextP code, treeP code, .vec 1 1 (code.length + 1)], .vec 1 (code.length + 1) (rowI .i64 s.1) true, .cel [.ptr 0 0], .cel [.vec 1 (bif m then 5 else 4) s.2.length]] ++ bif m then [.dead, .vec 1 s.2.length (rowI .i64 (natI s.2)) false] else [.vec 1 s.2.length (rowI .i64 (natI s.2)) false]
def uT (l : List Nat) (e x b : Nat) (x9 : PV) : List PV := [.junk, .fptr 1 1 (fun _ => [i64 (e : Nat)]) 0 0, .fptr 1 1 (fun _ => [i64 (x : Nat)]) 0 0, .ptr 2 0, .fptr 1 1 (fun _ => [i64 (b : Nat)]) 0 0, .ptr 3 0, .junk, .frz 1 l.length l.length (rowI .i64 (natI l)), i64 (l.length : Nat), x9, .junk, .junk]
theorem pweak {code : List (Int × Int)} {m : Bool} {s : List Int × List Nat} {T T' : List PV} (h : VSubs ([some 0, some 1, some 2, some 3, some 4] ++ bif m then [some 5] else []) [] (pH code m s) T T') : Weak [0, 1, 2, 3, 4] ([some 0, some 1, some 2, some 3, some 4] ++ bif m then [some 5] else []) [] T (pH code m s) T' (pH code m s) := by
 cases m with
 | false => exact wk _ [] _ _ (vals := h) (blks := .cons (.cel rfl (by simp) rfl (.cons (.nlv rfl) (.cons (.nlv rfl) (.cons (.one (.vec rfl rfl)) .nil)))) (.cons bs_same (.cons (.cel rfl (by simp) rfl (.cons (.one (.ptr rfl)) .nil)) (.cons (.cel rfl (by simp) rfl (.cons (.one (.vec rfl rfl)) .nil)) (.cons bs_same .nil)))))
 | true => exact wk _ [] _ _ (vals := h) (blks := .cons (.cel rfl (by simp) rfl (.cons (.nlv rfl) (.cons (.nlv rfl) (.cons (.one (.vec rfl rfl)) .nil)))) (.cons bs_same (.cons (.cel rfl (by simp) rfl (.cons (.one (.ptr rfl)) .nil)) (.cons (.cel rfl (by simp) rfl (.cons (.one (.vec rfl rfl)) .nil)) (.cons .dead (.cons bs_same .nil))))))
theorem put_ok {code : List (Int × Int)} {l : List Nat} {e x b : Nat} {s : List Int × List Nat} (hl : ∀ a, a ∈ l → a < code.length + 1) (hm : s.1.length = code.length + 1) (hn : code.length < 1000000) (hs : s.2.length + l.length < 100000000) (hll : l.length < 1000000) (hb : b < 1000000) :
  PCall E [0, 1, 2, 3, 4] 59 [encI (natI l), .fptr 1 1 (fun _ => [i64 (e : Nat)]) 0 0, .fptr 1 1 (fun _ => [i64 (x : Nat)]) 0 0, .ptr 2 0, .fptr 1 1 (fun _ => [i64 (b : Nat)]) 0 0, .ptr 3 0] (pH code false s) (fun v hp => v = .tup [] ∧ ∃ m, hp = pH code m (markL b e x s l)) := by
 unfold encI
 rw [natI_len]
 refine p_fn ?_
 show PTri E false [0, 1, 2, 3, 4] _ [.frz 1 l.length l.length (rowI .i64 (natI l)), .fptr 1 1 (fun _ => [i64 (e : Nat)]) 0 0, .fptr 1 1 (fun _ => [i64 (x : Nat)]) 0 0, .ptr 2 0, .fptr 1 1 (fun _ => [i64 (b : Nat)]) 0 0, .ptr 3 0, .junk, .junk, .junk, .junk, .junk, .junk] _ _
 refine s_run ?_
 refine e_loop (ι := Nat × Bool) (fun i => i.1 ≤ l.length) (fun i => l.length - i.1) (fun i => uT l e x b (i64 (i.1 : Nat))) (fun i => pH code i.2 (markL b e x s (l.take i.1))) (0, false) (Nat.zero_le _) (pweak (m := false) (by (try dsimp only [uT]); repeat' (first | exact VSubs.nil | apply VSubs.cons | exact VSub.one (VSub1.junk _) | exact VSub.nlv rfl | exact VSub.one (VSub1.ptr rfl)))) ?_
 rintro ⟨k, m⟩ hk
 cases m with
 | false =>
   simp only at hk
   have hsl : (markL b e x s (l.take k)).1.length = code.length + 1 := by rw [markL_len]; exact hm
   have htl : (markL b e x s (l.take k)).2.length ≤ s.2.length + l.length := Nat.le_trans markL_todo (by rw [List.length_take]; omega)
   have hsk : ∃ met todo, markL b e x s (l.take k) = (met, todo) := ⟨_, _, rfl⟩
   obtain ⟨met, todo, hsk⟩ := hsk
   rw [hsk] at hsl htl
   simp only at hsl htl
   show PTri E false [0, 1, 2, 3, 4] _ (uT l e x b (i64 (k : Nat))) (pH code false (markL b e x s (l.take k))) _
   rw [hsk]
   unfold uT pH
   refine s_run ?_
   refine s_cond (fun h1 => ?_) (fun h1 => ?_)
   ·simp only [decide_eq_true_eq] at h1
    have hkl : k < l.length := by omega
    obtain ⟨a, ha⟩ : ∃ a, l[k]? = some a := ⟨_, List.getElem?_eq_getElem hkl⟩
    have had : (natI l).getD k 0 = ((a : Nat) : Int) := by
     rw [natI_at hkl, List.getD_eq_getElem?_getD, ha]; rfl
    have han := hl a (List.mem_of_getElem? ha)
    have hsn : markL b e x s (l.take (k + 1)) = mark1 b e x (met, todo) a := by rw [take_snoc ha, markL_snoc, hsk]
    refine s_skip (s_block ?_)
    refine s_reg (g_run 2 ?_)
    rw [had]
    refine g_end ?_
    refine s_cut (fun T' hp' => (∃ x10, T' = (((uT l e x b (i64 (k : Nat))).set 6 (i64 (a : Nat))).set 10 x10).set 11 (.s (.bool (decide (a ≠ e ∧ a ≠ x ∧ met.getD a 0 ≠ ((b + 1 : Nat) : Int)))))) ∧ hp' = pH code false (met, todo)) ?_ ?_
    ·unfold uT pH
     refine e_drw (g_run 2 ?_)
     refine prg_split (fun h3 => ?_) (fun h3 => ?_)
     ·simp only [bne_iff_ne, ne_eq] at h3
      have hae : a ≠ e := fun q => h3 (by rw [q])
      refine g_run 3 ?_
      refine prg_split (fun h4 => ?_) (fun h4 => ?_)
      ·simp only [bne_iff_ne, ne_eq] at h4
       have hax : a ≠ x := fun q => h4 (by rw [q])
       refine g_run 1 ?_
       refine g_run 9 ?_
       refine prg_head (v' := i64 (b + 1 : Nat)) rfl (g_run 1 ?_)
       refine prg_head (v' := .s (.bool (decide (a ≠ e ∧ a ≠ x ∧ met.getD a 0 ≠ ((b + 1 : Nat) : Int))))) (by simp [hae, hax, bne, Bool.beq_eq_decide_eq]) ?_
       refine g_end ?_
       exact ⟨rfl, ⟨_, rfl⟩, rfl⟩
      ·simp only [bne_eq_false_iff_eq] at h4
       have hax : a = x := by omega
       refine g_end ?_
       exact ⟨rfl, ⟨_, by rw [show (decide (a ≠ e ∧ a ≠ x ∧ met.getD a 0 ≠ ((b + 1 : Nat) : Int))) = false from decide_eq_false fun q => q.2.1 hax]; rfl⟩, rfl⟩
     ·simp only [bne_eq_false_iff_eq] at h3
      have hae : a = e := by omega
      refine g_end ?_
      exact ⟨rfl, ⟨_, by rw [show (decide (a ≠ e ∧ a ≠ x ∧ met.getD a 0 ≠ ((b + 1 : Nat) : Int))) = false from decide_eq_false fun q => q.1 hae]; rfl⟩, rfl⟩
    rintro T' hp' ⟨⟨x10, rfl⟩, rfl⟩
    unfold uT pH
    refine e_cond (fun h5 => ?_) (fun h5 => ?_)
    ·have hss : markL b e x s (l.take (k + 1)) = (met.set a ((b + 1 : Nat) : Int), todo ++ [a]) := by rw [hsn]; exact if_pos (of_decide_eq_true h5)
     refine d_run ?_
     refine e_run ?_ (hq := by simp only [room, true_and, and_true]; omega)
     refine e_run ?_
     refine lp_next (k + 1, true) hkl (σ := [some 0, some 1, some 2, some 3, some 4, some 6]) (fz := []) ?_
     show Weak _ _ _ _ _ _ (pH code true (markL b e x s (l.take (k + 1))))
     rw [hss]
     unfold pH
     refine wk _ [] _ _ (vals := (by (try dsimp only [uT]); repeat' (first | exact VSubs.nil | apply VSubs.cons | exact VSub.one (VSub1.junk _) | exact VSub.nlv rfl | exact VSub.one (VSub1.ptr rfl)))) (blks := .cons (.cel rfl (by simp) rfl (.cons (.nlv rfl) (.cons (.nlv rfl) (.cons (.one (.vec rfl rfl)) .nil)))) (.cons (bs_vec rfl fun i hi => ?_) (.cons (.cel rfl (by simp) rfl (.cons (.one (.ptr rfl)) .nil)) (.cons (.cel rfl (by simp) rfl (.cons (.one (.vec rfl (by simp))) .nil)) (.cons .dead (.cons (.vec rfl (by simp) rfl (by simp) (fun h => nomatch h) fun i hi => ?_) .nil))))))
     ·exact row1_set (en := i64) (d := 0) (xs := met) (c := a) (x := ((b + 1 : Nat) : Int)) _ rfl (by rw [hsl]; exact hi)
     ·rw [natI_snoc]
      have := row1_push (en := i64) (d := 0) (x := ((a : Nat) : Int)) (xs := natI todo) (i := i) (by rw [natI_len]; simpa using hi)
      rw [natI_len] at this
      exact this
    ·have hss : markL b e x s (l.take (k + 1)) = (met, todo) := by rw [hsn]; exact if_neg (of_decide_eq_false h5)
     refine p_skip ?_
     refine e_run ?_
     refine lp_next (k + 1, false) hkl (σ := [some 0, some 1, some 2, some 3, some 4] ++ bif false then [some 5] else []) (fz := []) ?_
     show Weak _ _ _ _ _ _ (pH code false (markL b e x s (l.take (k + 1))))
     rw [hss]
     exact pweak (by (try dsimp only [uT]); repeat' (first | exact VSubs.nil | apply VSubs.cons | exact VSub.one (VSub1.junk _) | exact VSub.nlv rfl | exact VSub.one (VSub1.ptr rfl)))
   ·simp only [decide_eq_false_iff_not] at h1
    refine s_exit ?_
    refine fin (R := fun v hp => v = .tup [] ∧ ∃ m, hp = pH code m (markL b e x s l)) (res := []) ⟨rfl, false, ?_⟩
    rw [List.take_of_length_le (by omega)] at hsk
    rw [hsk]
    rfl
 | true =>
   simp only at hk
   have hsl : (markL b e x s (l.take k)).1.length = code.length + 1 := by rw [markL_len]; exact hm
   have htl : (markL b e x s (l.take k)).2.length ≤ s.2.length + l.length := Nat.le_trans markL_todo (by rw [List.length_take]; omega)
   have hsk : ∃ met todo, markL b e x s (l.take k) = (met, todo) := ⟨_, _, rfl⟩
   obtain ⟨met, todo, hsk⟩ := hsk
   rw [hsk] at hsl htl
   simp only at hsl htl
   show PTri E false [0, 1, 2, 3, 4] _ (uT l e x b (i64 (k : Nat))) (pH code true (markL b e x s (l.take k))) _
   rw [hsk]
   unfold uT pH
   refine s_run ?_
   refine s_cond (fun h1 => ?_) (fun h1 => ?_)
   ·simp only [decide_eq_true_eq] at h1
    have hkl : k < l.length := by omega
    obtain ⟨a, ha⟩ : ∃ a, l[k]? = some a := ⟨_, List.getElem?_eq_getElem hkl⟩
    have had : (natI l).getD k 0 = ((a : Nat) : Int) := by
     rw [natI_at hkl, List.getD_eq_getElem?_getD, ha]; rfl
    have han := hl a (List.mem_of_getElem? ha)
    have hsn : markL b e x s (l.take (k + 1)) = mark1 b e x (met, todo) a := by rw [take_snoc ha, markL_snoc, hsk]
    refine s_skip (s_block ?_)
    refine s_reg (g_run 2 ?_)
    rw [had]
    refine g_end ?_
    refine s_cut (fun T' hp' => (∃ x10, T' = (((uT l e x b (i64 (k : Nat))).set 6 (i64 (a : Nat))).set 10 x10).set 11 (.s (.bool (decide (a ≠ e ∧ a ≠ x ∧ met.getD a 0 ≠ ((b + 1 : Nat) : Int)))))) ∧ hp' = pH code true (met, todo)) ?_ ?_
    ·unfold uT pH
     refine e_drw (g_run 2 ?_)
     refine prg_split (fun h3 => ?_) (fun h3 => ?_)
     ·simp only [bne_iff_ne, ne_eq] at h3
      have hae : a ≠ e := fun q => h3 (by rw [q])
      refine g_run 3 ?_
      refine prg_split (fun h4 => ?_) (fun h4 => ?_)
      ·simp only [bne_iff_ne, ne_eq] at h4
       have hax : a ≠ x := fun q => h4 (by rw [q])
       refine g_run 1 ?_
       refine g_run 9 ?_
       refine prg_head (v' := i64 (b + 1 : Nat)) rfl (g_run 1 ?_)
       refine prg_head (v' := .s (.bool (decide (a ≠ e ∧ a ≠ x ∧ met.getD a 0 ≠ ((b + 1 : Nat) : Int))))) (by simp [hae, hax, bne, Bool.beq_eq_decide_eq]) ?_
       refine g_end ?_
       exact ⟨rfl, ⟨_, rfl⟩, rfl⟩
      ·simp only [bne_eq_false_iff_eq] at h4
       have hax : a = x := by omega
       refine g_end ?_
       exact ⟨rfl, ⟨_, by rw [show (decide (a ≠ e ∧ a ≠ x ∧ met.getD a 0 ≠ ((b + 1 : Nat) : Int))) = false from decide_eq_false fun q => q.2.1 hax]; rfl⟩, rfl⟩
     ·simp only [bne_eq_false_iff_eq] at h3
      have hae : a = e := by omega
      refine g_end ?_
      exact ⟨rfl, ⟨_, by rw [show (decide (a ≠ e ∧ a ≠ x ∧ met.getD a 0 ≠ ((b + 1 : Nat) : Int))) = false from decide_eq_false fun q => q.1 hae]; rfl⟩, rfl⟩
    rintro T' hp' ⟨⟨x10, rfl⟩, rfl⟩
    unfold uT pH
    refine e_cond (fun h5 => ?_) (fun h5 => ?_)
    ·have hss : markL b e x s (l.take (k + 1)) = (met.set a ((b + 1 : Nat) : Int), todo ++ [a]) := by rw [hsn]; exact if_pos (of_decide_eq_true h5)
     refine d_run ?_
     refine e_run ?_ (hq := by simp only [room, true_and, and_true]; omega)
     refine e_run ?_
     refine lp_next (k + 1, true) hkl (σ := [some 0, some 1, some 2, some 3, some 4, some 7]) (fz := []) ?_
     show Weak _ _ _ _ _ _ (pH code true (markL b e x s (l.take (k + 1))))
     rw [hss]
     unfold pH
     refine wk _ [] _ _ (vals := (by (try dsimp only [uT]); repeat' (first | exact VSubs.nil | apply VSubs.cons | exact VSub.one (VSub1.junk _) | exact VSub.nlv rfl | exact VSub.one (VSub1.ptr rfl)))) (blks := .cons (.cel rfl (by simp) rfl (.cons (.nlv rfl) (.cons (.nlv rfl) (.cons (.one (.vec rfl rfl)) .nil)))) (.cons (bs_vec rfl fun i hi => ?_) (.cons (.cel rfl (by simp) rfl (.cons (.one (.ptr rfl)) .nil)) (.cons (.cel rfl (by simp) rfl (.cons (.one (.vec rfl (by simp))) .nil)) (.cons .dead (.cons (.vec rfl (by simp) rfl (by simp) (fun h => nomatch h) fun i hi => ?_) .nil))))))
     ·exact row1_set (en := i64) (d := 0) (xs := met) (c := a) (x := ((b + 1 : Nat) : Int)) _ rfl (by rw [hsl]; exact hi)
     ·rw [natI_snoc]
      have := row1_push (en := i64) (d := 0) (x := ((a : Nat) : Int)) (xs := natI todo) (i := i) (by rw [natI_len]; simpa using hi)
      rw [natI_len] at this
      exact this
    ·have hss : markL b e x s (l.take (k + 1)) = (met, todo) := by rw [hsn]; exact if_neg (of_decide_eq_false h5)
     refine p_skip ?_
     refine e_run ?_
     refine lp_next (k + 1, true) hkl (σ := [some 0, some 1, some 2, some 3, some 4] ++ bif true then [some 5] else []) (fz := []) ?_
     show Weak _ _ _ _ _ _ (pH code true (markL b e x s (l.take (k + 1))))
     rw [hss]
     exact pweak (by (try dsimp only [uT]); repeat' (first | exact VSubs.nil | apply VSubs.cons | exact VSub.one (VSub1.junk _) | exact VSub.nlv rfl | exact VSub.one (VSub1.ptr rfl)))
   ·simp only [decide_eq_false_iff_not] at h1
    refine s_exit ?_
    refine fin (R := fun v hp => v = .tup [] ∧ ∃ m, hp = pH code m (markL b e x s l)) (res := []) ⟨rfl, true, ?_⟩
    rw [List.take_of_length_le (by omega)] at hsk
    rw [hsk]
    rfl
end Go.Proofs.Ytggaimcopbjdiaa.Graph
