import Derived.Test.YtggaimcopbjdiaaPostRound
set_option linter.unusedVariables false
set_option linter.unusedSimpArgs false
set_option maxRecDepth 10000
namespace Go.Proofs.Ytggaimcopbjdiaa.Graph
open Go.Proofs.Ytggaimcopbjdiaa.AM Go.Proofs.Ytggaimcopbjdiaa.Post
def tI (n : Nat) (l : List Nat) (x15 : PV) : List PV := tA n l x15 .junk .junk .junk .junk .junk .junk .junk .junk
theorem t_weak {code : List (Int × Int)} {pls ne : List Int} {T T' : List PV} {p : List Nat} (hp : sgKeep p [some 0, some 1, some 2, some 3, some 4] = true) (h : VSubs [some 0, some 1, some 2, some 3, some 4] [] (tH code pls ne) T T') : Weak p [some 0, some 1, some 2, some 3, some 4] [] T (tH code pls ne) T' (tH code pls ne) :=
 wk _ [] _ _ (keep := hp) (vals := h) (blks := .cons bs_cel (.cons (.cel rfl (by simp) rfl (.cons (.one (.vec rfl rfl)) .nil)) (.cons (.cel rfl (by simp) rfl (.cons (.one (.exv rfl rfl)) .nil)) (.cons bs_same (.cons bs_same .nil)))))
theorem fn14 {hp : PH} : VSub [some 0, some 1, some 2, some 3, some 4] [] hp (.fn 66 [] [.ptr 1 0, .ptr 2 0]) (.fn 66 [] [.ptr 1 0, .ptr 2 0]) := .fn .nil (.cons (.ptr rfl) (.cons (.ptr rfl) .nil))
theorem treeI_at {code : List (Int × Int)} {nr : Nat → Option Nat} {ne : List Int} (h : NeR (code.length + 1) ne nr) {i : Nat} (hi : i < code.length + 1) : (if i = code.length then [i64 (-1)] else rowI .i64 ne i) = rowI .i64 (treeI code nr) i := by
 unfold rowI treeI
 by_cases e : i = code.length
 ·rw [if_pos e]
  rw [show ((List.range (code.length + 1)).map fun a => if a = code.length then -1 else ofN (nr a)).getD i 0 = -1 by rw [List.getD_eq_getElem?_getD, List.getElem?_map, List.getElem?_range hi]; simp [e]]
  rfl
 ·rw [if_neg e, h.at' i hi, List.getD_eq_getElem?_getD, List.getElem?_map, List.getElem?_range hi]
  simp [e]
theorem treeI_len (code : List (Int × Int)) (nr : Nat → Option Nat) : (treeI code nr).length = code.length + 1 := by simp [treeI]
def treeV (code : List (Int × Int)) : PV → Prop := fun v => ∃ nr, TreeR code nr ∧ v = encI (treeI code nr)
theorem bj_end {x : Nat} {nr : Nat → Option Nat} {fol : List Nat} {best : Option Nat} {j : Nat} (hj : fol.length ≤ j) (h : BJ x nr (fol.take j) best) : BJ x nr fol best := by rwa [List.take_of_length_le hj] at h
theorem take_snoc {fol : List Nat} {j c : Nat} (h : fol[j]? = some c) : fol.take (j + 1) = fol.take j ++ [c] := by
 rw [List.take_add_one, h]; rfl
def treeQ (code : List (Int × Int)) : PV → PH → Prop := fun v hp => ∃ nr, TreeR code nr ∧ v = .exv 1 0 (code.length + 1) ∧ hp = [.vec 1 (code.length + 1) (rowI .i64 (treeI code nr)) false]
def LI (code : List (Int × Int)) (i : List Nat × List Int × (Nat → Option Nat) × List Int) : Prop := OrdL (code.length + 1) code.length (bkN code) i.1 ∧ PlR (code.length + 1) i.2.1 (ix i.1) (Ex code) ∧ TI code i.1 i.2.1 i.2.2.2 i.2.2.1
theorem round_ok {f : Fn} (hf : Fit f.code) {l : List Nat} (ho : OrdL (f.code.length + 1) f.code.length (bkN f.code) l) {pls ne : List Int} (hp : PlR (f.code.length + 1) pls (ix l) (Ex f.code)) {nr : Nat → Option Nat} (hI : TI f.code l pls ne nr) {m : Option Nat} (hm : ∀ k, m = some k → tot (f.code.length + 1) l nr ≤ k) :
  PTri E false [] c33r (tI (f.code.length + 1) l .junk) (tH f.code pls ne) (gotoQ 0 (LI f.code) (fun i => tot (f.code.length + 1) i.1 i.2.2.1) (fun i => tI (f.code.length + 1) i.1 .junk) (fun i => tH f.code i.2.1 i.2.2.2) [] m (wkQ [] (retQ [.tmp 2] (treeQ f.code)))) := by
 have f1 := hf.len
 have od := ord_of ho
 have hl1 : 1 ≤ l.length := by obtain ⟨t, e⟩ := ho.hd; rw [e]; simp
 have hln : l.length ≤ f.code.length + 1 := nodup_lt ho.nd ho.lt
 unfold tI tA tH
 refine s_run ?_
 refine s_ass (s_run ?_)
 refine s_loop (ι := Nat × (Nat → Option Nat) × List Int × Bool) (fun i => KI f.code l nr i.2.1 i.2.2.1 i.1 i.2.2.2) (fun i => l.length - i.1) (fun i => tA (f.code.length + 1) l (.s (.bool i.2.2.2)) .junk .junk (.frz 1 (l.length - 1) (l.length - 1) fun j => rowI .i64 (natI l) (1 + j)) (i64 (l.length - 1 : Nat)) (i64 (i.1 : Nat)) .junk .junk .junk) (fun i => tH f.code pls i.2.2.1) (0, nr, ne, false) ⟨by simpa using hl1, hI.rd, hI.ne, (fun h => nomatch h), fun _ => ⟨rfl, fun a ha hne hlt => absurd (od.inj a f.code.length ha od.exit (by rw [od.px]; omega)) hne⟩⟩ (σ := [some 0, some 1, some 2, some 3, some 4]) (t_weak rfl (by (try dsimp only [tA]); repeat' (first | exact VSubs.nil | apply VSubs.cons | exact VSub.one (VSub1.junk _) | exact VSub.nlv rfl | exact VSub.one (VSub1.ptr rfl) | exact fn14))) ?_
 rintro ⟨k, nr', ne', ch⟩ hK
 simp only at hK
 unfold tA tH
 refine s_run ?_
 refine s_cond (fun h1 => ?_) (fun h1 => ?_)
 ·simp only [decide_eq_true_eq] at h1
  have hk : k + 1 < l.length := by omega
  obtain ⟨a, ha⟩ : ∃ a, l[k + 1]? = some a := ⟨_, List.getElem?_eq_getElem hk⟩
  have had : (natI l).getD (1 + k) 0 = ((a : Nat) : Int) := by
   rw [natI_at (by omega), List.getD_eq_getElem?_getD, Nat.add_comm, ha]; rfl
  have han : a < f.code.length + 1 := ho.lt a (List.mem_of_getElem? ha)
  have hn2 := nextI_len f.code (a : Nat)
  have hnn : (nxN f.code a).length = (nextI f.code (a : Nat)).length := by rw [← next_nat, natI_len]
  refine s_skip (s_block ?_)
  refine s_reg (g_run 2 ?_)
  rw [had]
  refine g_end ?_
  refine s_run ?_
  refine s_ass (s_run ?_)
  refine s_loop (ι := Nat × Option Nat) (fun i => i.1 ≤ (nxN f.code a).length ∧ BJ f.code.length nr' ((nxN f.code a).take i.1) i.2) (fun i => (nxN f.code a).length - i.1) (fun i => tA (f.code.length + 1) l (.s (.bool ch)) (i64 (a : Nat)) (i64 (ofN i.2)) (.frz 1 (l.length - 1) (l.length - 1) fun j => rowI .i64 (natI l) (1 + j)) (i64 (l.length - 1 : Nat)) (i64 (k : Nat)) (encI (nextI f.code (a : Nat))) (i64 ((nextI f.code (a : Nat)).length : Nat)) (i64 (i.1 : Nat))) (fun _ => tH f.code pls ne') (0, none) ⟨Nat.zero_le _, bj_nil _ _⟩ (σ := [some 0, some 1, some 2, some 3, some 4]) (t_weak rfl (by (try dsimp only [tA]); repeat' (first | exact VSubs.nil | apply VSubs.cons | exact VSub.one (VSub1.junk _) | exact VSub.nlv rfl | exact VSub.one (VSub1.ptr rfl) | exact fn14))) ?_
  rintro ⟨j, best⟩ ⟨hj1, hB⟩
  simp only at hj1 hB
  unfold tA tH
  refine s_run ?_
  refine s_cond (fun h2 => ?_) (fun h2 => ?_)
  ·simp only [decide_eq_true_eq] at h2
   have hj : j < (nxN f.code a).length := by omega
   obtain ⟨c, hc⟩ : ∃ c, (nxN f.code a)[j]? = some c := ⟨_, List.getElem?_eq_getElem hj⟩
   have hcd : (nextI f.code (a : Nat)).getD j 0 = ((c : Nat) : Int) := by
    rw [← next_nat, natI_at hj, List.getD_eq_getElem?_getD, hc]; rfl
   have hcn := (nx_lt (List.mem_of_getElem? hc)).2
   have hts := take_snoc hc
   refine s_skip (s_block ?_)
   refine s_reg (g_run 2 ?_)
   rw [hcd]
   refine g_end ?_
   refine p_block ?_
   refine s_reg (g_run 3 ?_)
   rw [hK.ne.at' c hcn]
   refine g_end ?_
   refine e_cond (fun h3 => ?_) (fun h3 => ?_)
   ·rw [ofN_lt] at h3
    have hn : nr' c = none := by cases h : nr' c with | none => rfl | some b => rw [h] at h3; cases h3
    refine p_skip ?_
    refine e_run ?_ (hq := by (try dsimp only); simp only [in64, and_true, true_and]; omega)
    exact lp_next (j + 1, best) ⟨hj, by rw [hts]; exact bj_skip hB hn⟩ (t_weak rfl (by (try dsimp only [tA]); repeat' (first | exact VSubs.nil | apply VSubs.cons | exact VSub.one (VSub1.junk _) | exact VSub.nlv rfl | exact VSub.one (VSub1.ptr rfl) | exact fn14)))
   ·rw [ofN_lt] at h3
    have hs : (nr' c).isSome = true := by cases h : nr' c with | none => rw [h] at h3; cases h3 | some b => rfl
    refine s_run ?_
    cases best with
    | none =>
      refine e_t ?_
      refine e_run ?_
      refine e_run ?_ (hq := by (try dsimp only); simp only [in64, and_true, true_and]; omega)
      exact lp_next (j + 1, some c) ⟨hj, by rw [hts]; exact bj_first hB hs⟩ (t_weak rfl (by (try dsimp only [tA]); repeat' (first | exact VSubs.nil | apply VSubs.cons | exact VSub.one (VSub1.junk _) | exact VSub.nlv rfl | exact VSub.one (VSub1.ptr rfl) | exact fn14)))
    | some b =>
      refine e_f ?_ (hc := by
       have : decide (ofN (some b) < 0) = false := by rw [ofN_lt]; rfl
       show some (PV.s (.bool (decide (ofN (some b) < 0)))) = _
       rw [this])
      obtain ⟨⟨d, d1, d2⟩, hB2, hB3⟩ := hB
      have hbs : (nr' b).isSome = true := (hB2 d d1 d2).dst
      refine e_reg ?_
      refine prg_scall [1, 2, 3, 4] [] (args' := [i64 (b : Nat), i64 (c : Nat), .ptr 0 0, .ptr 1 0]) (hpc := mH (f.code.length + 1) pls ne' true) rfl rfl rfl (wk _ [] _ _ (blks := .cons (.cel rfl (by simp) rfl (.cons (.one (.vec rfl rfl)) .nil)) (.cons (.cel rfl (by simp) rfl (.cons (.one (.exv rfl rfl)) .nil)) (.cons bs_same (.cons bs_same .nil))))) rfl (meet_ok hK.rd.ok od (fun a ha => ex_lt ha) hK.ne hp (by omega) hbs hs true) ?_
      rintro v hpc ⟨⟨mm, rfl, hM⟩, rfl⟩
      refine ⟨rfl, rfl, Nat.le_refl _, ?_⟩
      refine g_end ?_
      refine e_run ?_ (hq := by (try dsimp only); simp only [in64, and_true, true_and]; omega)
      exact lp_next (j + 1, some mm) ⟨hj, by rw [hts]; exact bj_meet ⟨⟨d, d1, d2⟩, hB2, hB3⟩ hs hM⟩ (t_weak rfl (by (try dsimp only [tA]); repeat' (first | exact VSubs.nil | apply VSubs.cons | exact VSub.one (VSub1.junk _) | exact VSub.nlv rfl | exact VSub.one (VSub1.ptr rfl) | exact fn14)))
  ·simp only [decide_eq_false_iff_not] at h2
   have hB' := bj_end (by omega) hB
   obtain ⟨_, _, _, mm, rfl, _⟩ := ki_best ho hK ha hB'
   refine s_exit ?_
   refine s_reg (g_run 3 ?_)
   rw [hK.ne.at' a han]
   refine g_end ?_
   refine e_cond (fun h3 => ?_) (fun h3 => ?_)
   ·simp only [bne_iff_ne, ne_eq] at h3
    refine s_run ?_
    refine e_run ?_
    refine e_run ?_ (hq := by (try dsimp only); simp only [in64, and_true, true_and]; omega)
    refine lp_next (k + 1, upd nr' a mm, ne'.set a (mm : Nat), true) (ki_upd ho hK ha hB' fun e => h3 (by rw [e])) (wk [some 0, some 1, some 2, some 3, some 4] [] _ _ (vals := ?_) (blks := .cons bs_cel (.cons (.cel rfl (by simp) rfl (.cons (.one (.vec rfl rfl)) .nil)) (.cons (.cel rfl (by simp) rfl (.cons (.one (.exv rfl rfl)) .nil)) (.cons bs_same (.cons (bs_vec rfl fun i hi => ?_) .nil))))))
    ·try dsimp only [tA]
     repeat' (first | exact VSubs.nil | apply VSubs.cons | exact VSub.one (VSub1.junk _) | exact VSub.nlv rfl | exact VSub.one (VSub1.ptr rfl) | exact fn14)
    ·exact row1_set (en := i64) (d := 0) (xs := ne') (c := a) (x := ((mm : Nat) : Int)) _ rfl (by rw [hK.ne.len]; exact hi)
   ·simp only [bne_eq_false_iff_eq] at h3
    refine p_skip ?_
    refine e_run ?_ (hq := by (try dsimp only); simp only [in64, and_true, true_and]; omega)
    exact lp_next (k + 1, nr', ne', ch) (ki_same ho hK ha hB' (ofN_inj h3).symm) (t_weak rfl (by (try dsimp only [tA]); repeat' (first | exact VSubs.nil | apply VSubs.cons | exact VSub.one (VSub1.junk _) | exact VSub.nlv rfl | exact VSub.one (VSub1.ptr rfl) | exact fn14)))
 ·simp only [decide_eq_false_iff_not] at h1
  have hkl := hK.kl
  have hall : ∀ a, Ex f.code a → ix l a < k + 1 := fun a ha => by have := (place_lt ho ha).1; omega
  refine s_exit ?_
  refine s_ass (s_run ?_)
  cases ch with
  | true =>
    refine s_t ?_
    refine p_seq (p_goto ?_)
    refine ⟨rfl, (l, pls, nr', ne'), ⟨ho, hp, rd_next od hK.rd hall, hK.ne⟩, fun n hn => ?_, [some 0, some 1, some 2, some 3, some 4], [], t_weak rfl ?_⟩
    ·have := hm n hn
     have := hK.t rfl
     dsimp only
     omega
    ·try dsimp only [tI, tA]
     repeat' (first | exact VSubs.nil | apply VSubs.cons | exact VSub.one (VSub1.junk _) | exact VSub.nlv rfl | exact VSub.one (VSub1.ptr rfl) | exact fn14)
  | false =>
    refine s_f (s_skip ?_)
    obtain ⟨rfl, hfp⟩ := hK.f rfl
    refine s_reg (g_run 2 ?_)
    refine prg_head (v' := i64 (f.code.length : Nat)) (by unfold i64; congr 2; omega) ?_
    refine g_end ?_
    refine s_run ?_
    refine p_ret ?_
    refine ⟨[some 4], [], [.junk, .junk, .exv 1 0 (f.code.length + 1), .junk, .junk, .junk, .junk, .junk, .junk, .junk, .junk, .junk, .junk, .junk, .junk, .junk, .junk, .junk, .junk, .junk, .junk, .junk, .junk, .junk, .junk, .junk, .junk, .junk, .junk, .junk, .junk, .junk, .junk, .junk, .junk, .junk, .junk, .junk, .junk, .junk, .junk], [.vec 1 (f.code.length + 1) (rowI .i64 (treeI f.code nr')) false], wk _ [] _ _ (vals := ?_) (blks := .cons (.vec rfl (by simp) rfl (Nat.le_refl _) (fun h => nomatch h) fun i hi => treeI_at hK.ne hi) .nil), fin ⟨nr', tree_of od hK.rd hall (fun a ha hne => hfp a ha hne (hall a ha)), rfl, rfl⟩⟩
    try dsimp only [tA]
    repeat' (first | exact VSubs.nil | apply VSubs.cons | exact VSub.one (VSub1.junk _) | exact VSub.nlv rfl | exact VSub.one (VSub1.exv rfl rfl))
end Go.Proofs.Ytggaimcopbjdiaa.Graph
