/- region.Of and region.Governs, of whatever number, with lists of their own. -/
import Derived.Test.YtollibkfagjnaaaTabD
import Derived.Test.YtollibkfagjnaaaRegOf
import Derived.Test.YtollibkfagjnaaaRegGov
set_option linter.unusedVariables false
set_option linter.unusedSimpArgs false
set_option maxRecDepth 10000
namespace Go.Proofs.Ytollibkfagjnaaa.Graph
open Go.Proofs.Ytollibkfagjnaaa.AM Go.Proofs.Ytollibkfagjnaaa.Post
section
variable {code : List (Int × Int)} {K : Nat} {g : FuncId} {first cap : Nat → List PV} {x : Bool} {rest : List Value} {S : Type} {num : S → Nat} {row : S → Nat → List PV} {nx : S → Nat → S} {inv : Nat → S → Prop}
theorem eachneg_ok (hn : code.length < 1000000) {b : Int} (hb : b < 0) {met : List Int} {s : S} :
    PCall E [0, 1, 2, 3] 77 [.ptr 0 0, i64 b, .fn g (first 2) (cap 2)] (eI code x rest num row met s) (fun v hp => v = .tup [] ∧ hp = eO code x rest num row met s) := by
  refine p_fn ?_
  show PTri E false [0, 1, 2, 3] RegionAwake.c77.body [.ptr 0 0, i64 b, .fn g (first 2) (cap 2), .junk, .junk, .junk, .junk, .junk, .junk, .junk, .junk, .junk] _ _
  unfold eI eW eM treeP
  refine s_run ?_
  show PTri E false [0, 1, 2, 3] (.scope scE) _ _ _
  refine p_scope2 (ι := Unit) (fun _ => False) (fun _ => 0) (fun _ => []) (fun _ => []) scE_ok ?_ (fun _ h => h.elim)
  have early : ∀ {T : List PV} {B4 B5 B6 : PB} {c : ACode}, PTri E false [0, 1, 2, 3] (.seq .ret c) T [eW code, eM code met, .cel (hv x 3 (num s) :: rest.map .s), .vec 1 (num s) (row s) false, B4, B5, B6] (gotoQ 0 (fun _ : Unit => False) (fun _ => 0) (fun _ => []) (fun _ => []) [0, 1, 2, 3] none (retQ [] (fun v hp => v = .tup [] ∧ hp = eO code x rest num row met s))) := by
    intro T B4 B5 B6 c
    refine p_weakD [some 0, some 1, some 2, some 3, some 3] [] [3] (vs_junk T) (hp' := eO code x rest num row met s) (.cons (ew_sub rfl rfl (by simp) rfl) (.cons (em_sub rfl (by simp) rfl) (.cons (.cel rfl (by simp) rfl (.cons (.one (hv_sub rfl)) (vsubs_s _))) (.cons .dead (.cons (.vec rfl (by simp) rfl (Nat.le_refl _) (fun h => nomatch h) fun _ _ => rfl) .nil))))) ?_
    refine s_ret ?_
    exact fin (R := fun v hp => v = .tup [] ∧ hp = eO code x rest num row met s) (res := []) ⟨rfl, rfl⟩
  refine s_reg (g_run 5 ?_)
  refine g_run 1 ?_
  refine prg_head (v' := i64 (code.length : Nat)) (by unfold i64; congr 2; omega) ?_
  refine g_end ?_
  refine s_ass (s_drw (g_run 2 ?_))
  refine prg_head (v' := .s (.bool true)) (by rw [decide_eq_true hb]) ?_
  refine g_end ?_
  refine s_t ?_
  exact early
end
/-- What is told of whatever number. -/
def ToldI (code : List (Int × Int)) (b : Int) (tl : List Nat) : Prop := tl.Nodup ∧ ∀ a, a ∈ tl ↔ 0 ≤ b ∧ Reg code b.toNat a
noncomputable def ofI (code : List (Int × Int)) (b : Int) : List Nat := if 0 ≤ b then ofL code b.toNat else []
theorem ofI_mem {code : List (Int × Int)} {b : Int} {a : Nat} : a ∈ ofI code b ↔ 0 ≤ b ∧ Reg code b.toNat a := by
  unfold ofI
  by_cases h : 0 ≤ b
  · rw [if_pos h, of_mem]
    exact ⟨fun q => ⟨h, q.2⟩, fun q => ⟨reg_lt q.2, q.2⟩⟩
  · rw [if_neg h]
    exact ⟨fun q => by simp at q, fun q => absurd q.1 h⟩
theorem ofI_nodup {code : List (Int × Int)} {b : Int} : (ofI code b).Nodup := by
  unfold ofI
  split
  · exact of_nodup
  · exact List.nodup_nil
theorem ofI_pair {code : List (Int × Int)} {b : Int} : (natI (ofI code b)).Pairwise (· ≤ ·) := by
  unfold ofI
  split
  · exact of_pair
  · exact .nil
theorem sortedI_of {code : List (Int × Int)} {b : Int} {tl : List Nat} {us : List Int} (ht : ToldI code b tl) (h1 : Sw 0 tl.length (natI tl) us) (h2 : Srt 0 tl.length us) : us = natI (ofI code b) := by
  have hl : us.length = tl.length := h1.len.trans (natI_len _)
  have p1 : tl.Perm (ofI code b) := (List.perm_ext_iff_of_nodup ht.1 ofI_nodup).2 fun a => by rw [ht.2, ofI_mem]
  have p2 : us.Perm (natI tl) := List.perm_iff_count.2 fun z => h1.count (by rw [natI_len]; exact Nat.le_refl _) z
  have p3 : us.Perm (natI (ofI code b)) := p2.trans (p1.map _)
  exact List.Perm.eq_of_pairwise (le := (· ≤ ·)) (fun a b _ _ h1 h2 => Int.le_antisymm h1 h2) (srt_pair (by rw [hl]; exact h2)) ofI_pair p3
theorem toldI_len {code : List (Int × Int)} {b : Int} {tl : List Nat} (ht : ToldI code b tl) : tl.length ≤ code.length := nodup_lt ht.1 fun a h => reg_lt ((ht.2 a).1 h).2
theorem ofI_len {code : List (Int × Int)} {b : Int} : (ofI code b).length ≤ code.length := nodup_lt ofI_nodup fun a h => reg_lt (ofI_mem.1 h).2
theorem ofI_out {code : List (Int × Int)} {b : Int} (h : ¬ (0 ≤ b ∧ b < code.length)) : ofI code b = [] := by
  refine List.eq_nil_iff_forall_not_mem.2 fun a q => ?_
  obtain ⟨h1, h2⟩ := ofI_mem.1 q
  have := h2.1
  exact h ⟨h1, by omega⟩
theorem eachI_ok {code : List (Int × Int)} (hT : TreeR code (nrT code)) (hn : code.length < 1000000) {b : Int} (hb : b < 4611686018427387904) :
    PCall E [0, 1, 2, 3] 77 [.ptr 0 0, i64 b, .fn 79 [] [.ptr 2 0]] [eW code, eM code (List.replicate (code.length + 1) 0), .cel [.vec 1 3 0], .vec 1 0 (rowI .i64 (natI [])) false]
      (fun v hp => v = .tup [] ∧ ∃ met' tl, ToldI code b tl ∧ hp = eO code false [] List.length (fun l => rowI .i64 (natI l)) met' tl) := by
  by_cases h0 : 0 ≤ b
  · obtain ⟨c, rfl⟩ : ∃ c : Nat, b = c := ⟨b.toNat, by omega⟩
    refine (each_ok hT hn (ofT (n := code.length) (by omega)) (b := c) (by omega) (met := List.replicate (code.length + 1) 0) (by simp) (fun a ha => by simp [List.getD_eq_getElem?_getD, List.getElem?_replicate, ha]) (s := []) (k := 0) (Nat.le_refl _) (by omega)).mono fun v hp hq => ?_
    obtain ⟨e1, met', tl, ht, e2⟩ := hq
    have hfold : tl.foldl snocN [] = tl := by rw [snoc_fold]; rfl
    rw [hfold] at e2
    exact ⟨e1, met', tl, ⟨ht.nd, fun a => by rw [ht.iff a, Int.toNat_natCast]; exact ⟨fun q => ⟨h0, q⟩, fun q => q.2⟩⟩, e2⟩
  · refine (eachneg_ok (first := fun _ => []) (cap := fun q => [.ptr q 0]) (x := false) (rest := []) (num := List.length) (row := fun l => rowI .i64 (natI l)) (met := List.replicate (code.length + 1) 0) (s := ([] : List Nat)) hn (b := b) (by omega)).mono fun v hp hq => ?_
    exact ⟨hq.1, _, [], ⟨List.nodup_nil, fun a => ⟨fun q => by simp at q, fun q => absurd q.1 h0⟩⟩, hq.2⟩
theorem ofO_ok {f : Fn} (hf : Fit f.code) (h40 : f.code.length < 50) {b : Int} (hb : b < 4611686018427387904) : PCall E [] 42 [encF f, i64 b] [] (fun v hp => TreeR f.code (nrT f.code) ∧ ownQ (natI (ofI f.code b)) v hp) := by
  have f1 := hf.len
  refine p_fn ?_
  show PTri E false [] _ [encF f, i64 b, .junk, .junk, .junk] _ _
  refine p_post ?_
  refine s_run ?_
  refine s_run ?_
  refine p_weak [some 0, some 1, none] [] (wk _ [] [.junk, i64 b, .ptr 0 0, .junk, .ptr 1 0] [.cel (cellsF f), .cel [.vec 1 2 0], .vec 1 0 (rowI .i64 (natI [])) false] (vals := by (repeat' (first | exact VSubs.nil | apply VSubs.cons | exact VSub.one (VSub1.junk _) | exact VSub.nlv rfl | exact VSub.one (VSub1.ptr rfl)))) (blks := .cons bs_cel (.cons (.cel rfl (by simp) rfl (.cons (.one (.nil rfl)) .nil)) (.cons (.nil rfl) .nil)))) ?_
  refine s_reg (g_run 1 ?_)
  refine g_scall [] [] (args' := [encF f]) (hpc := []) (newWalker_ok hf) (wk _ [] _ _ (vals := .cons (.nlv rfl) .nil) (blks := .nil)) ?_
  rintro v hpc' ⟨hT, rfl, rfl⟩
  refine ⟨rfl, rfl, Nat.zero_le _, ?_⟩
  refine g_run 1 ?_
  refine g_scall [3, 4, 1, 2] [] (args' := [.ptr 0 0, i64 b, .fn 79 [] [.ptr 2 0]]) (hpc := [eW f.code, eM f.code (List.replicate (f.code.length + 1) 0), .cel [.vec 1 3 0], .vec 1 0 (rowI .i64 (natI [])) false]) (eachI_ok hT f1 hb) (wk _ [] _ _ (vals := .cons (.one (.ptr rfl)) (.cons (.nlv rfl) (.cons (.fn .nil (.cons (.ptr rfl) .nil)) .nil))) (blks := .cons (.cel rfl (by simp) rfl (.cons (.nlv rfl) (.cons (.nlv rfl) (.cons (.one (.vec rfl rfl)) .nil)))) (.cons bs_same (.cons (.cel rfl (by simp) rfl (.cons (.one (.vec rfl rfl)) .nil)) (.cons bs_same .nil))))) ?_
  rintro v hpc' ⟨rfl, met', tl, ht, rfl⟩
  have htl := toldI_len ht
  refine ⟨rfl, rfl, by simp [eO], ?_⟩
  refine g_fin ?_
  refine p_weak [some 1, some 5] [] (wk _ [] [.junk, .junk, .junk, .junk, .ptr 0 0] [.cel [.vec 1 1 tl.length], .vec 1 tl.length (rowI .i64 (natI tl)) false] (vals := by (repeat' (first | exact VSubs.nil | apply VSubs.cons | exact VSub.one (VSub1.junk _) | exact VSub.nlv rfl | exact VSub.one (VSub1.ptr rfl)))) (blks := .cons (.cel rfl (by simp) rfl (.cons (.one (.vec rfl rfl)) .nil)) (.cons bs_same .nil))) ?_
  refine s_reg (g_run 1 ?_)
  refine g_scall [1] [] (args' := [.vec 1 0 tl.length]) (hpc := dH (natI tl) tl.length false) (sort_ok (by omega) (natI_len _)) (wk _ [] _ _ (vals := .cons (.one (.vec rfl rfl)) .nil) (blks := .cons bs_same .nil)) ?_
  rintro v hpc' ⟨us, rfl, u1, rfl, u2⟩
  have hus := sortedI_of ht u1 u2
  have hul : us.length = tl.length := u1.len.trans (natI_len _)
  refine ⟨rfl, rfl, Nat.le_refl _, ?_⟩
  refine g_end ?_
  subst hus
  rw [← hul]
  refine p_weak [some 0, some 1] [] (wk _ [] [.junk, .junk, .junk, .junk, .ptr 0 0] [.cel [.vec 1 1 (natI (ofI f.code b)).length], .vec 1 (natI (ofI f.code b)).length (rowI .i64 (natI (ofI f.code b))) false] (vals := by (repeat' (first | exact VSubs.nil | apply VSubs.cons | exact VSub.one (VSub1.junk _) | exact VSub.nlv rfl | exact VSub.one (VSub1.ptr rfl)))) (blks := .cons (.cel rfl (by simp) rfl (.cons (.one (.vec rfl rfl)) .nil)) (.cons (.vec rfl (by simp) rfl (Nat.le_refl _) (fun h => nomatch h) fun _ _ => rfl) .nil))) ?_
  refine s_reg (g_run 1 ?_)
  refine g_scall [1] [] (args' := [.vec 1 0 (natI (ofI f.code b)).length]) (hpc := [.vec 1 (natI (ofI f.code b)).length (rowI .i64 (natI (ofI f.code b))) false]) (clipO_ok _ _ _) (wk _ [] _ _ (vals := .cons (.one (.vec rfl rfl)) .nil) (blks := .cons bs_same .nil)) ?_
  rintro v hpc' ⟨rfl, rfl⟩
  refine ⟨rfl, rfl, Nat.le_refl _, ?_⟩
  refine g_end ?_
  refine p_ret ?_
  exact ⟨[some 1], [], [.junk, .junk, .junk, .exv 1 0 (natI (ofI f.code b)).length, .junk], [.vec 1 (natI (ofI f.code b)).length (rowI .i64 (natI (ofI f.code b))) false], wk _ [] _ _ (vals := by (repeat' (first | exact VSubs.nil | apply VSubs.cons | exact VSub.one (VSub1.junk _) | exact VSub.one (VSub1.exv rfl rfl)))) (blks := .cons bs_same .nil), fin ⟨hT, rfl, rfl⟩⟩
/-! ### Governs -/
def fBI (z : Int) : PV := .fptr 1 1 (fun _ => [i64 z]) 0 0
def govNI (y : Int) (b : Nat) (l : List Nat) (x : Nat) : List Nat := if ((x : Nat) : Int) = y then l ++ [b] else l
open Classical in
noncomputable def govI (code : List (Int × Int)) (a : Int) : Nat → List Nat
  | 0 => []
  | k + 1 => if 0 ≤ a ∧ Reg code k a.toNat then govI code a k ++ [k] else govI code a k
theorem govI_len {code : List (Int × Int)} {a : Int} : ∀ {k : Nat}, (govI code a k).length ≤ k
  | 0 => Nat.le_refl _
  | k + 1 => by
    have := govI_len (code := code) (a := a) (k := k)
    simp only [govI]
    split
    · rw [List.length_append, List.length_singleton]; omega
    · omega
theorem govI_step {code : List (Int × Int)} {a : Int} {k : Nat} {met : List Int} {tl : List Nat} (ht : Told code k met tl) : tl.foldl (govNI a k) (govI code a k) = govI code a (k + 1) := by
  simp only [govI]
  by_cases h : 0 ≤ a
  · have : govNI a k = govN a.toNat k := by
      funext l x
      unfold govNI govN
      by_cases e : x = a.toNat
      · rw [if_pos e, if_pos (by omega)]
      · rw [if_neg e, if_neg (by omega)]
    rw [this, govN_fold ht.nd]
    by_cases w : a.toNat ∈ tl
    · rw [if_pos w, if_pos ⟨h, (ht.iff _).1 w⟩]
    · rw [if_neg w, if_neg fun q => w ((ht.iff _).2 q.2)]
  · rw [if_neg fun q => h q.1]
    have : ∀ (tl l : List Nat), tl.foldl (govNI a k) l = l := by
      intro tl
      induction tl with
      | nil => intro l; rfl
      | cons t tl ih =>
        intro l
        rw [List.foldl_cons, ih]
        unfold govNI
        rw [if_neg (by omega)]
    exact this tl _
theorem govTI {n b : Nat} {y : Int} (hb : b < 1000000) : Tell n 100000000 81 (fun _ => []) (fun q => [fBI y, .ptr q 0, fB b]) false [] (List Nat) List.length (fun l => rowI .i64 (natI l)) (govNI y b) (fun k l => l.length ≤ k) := by
  refine ⟨fun h => ⟨.nil, .cons (.same rfl) (.cons (.ptr h) (.cons (.same rfl) .nil))⟩, fun {k s a} h => by
    unfold govNI; split
    · rw [List.length_append, List.length_singleton]; omega
    · omega, fun {k s x} hk ha hs => ?_⟩
  show PCall E [0, 1] 81 [i64 (x : Nat), fBI y, .ptr 0 0, fB b] [.cel [.vec 1 1 s.length], .vec 1 s.length (rowI .i64 (natI s)) false] (fun v hp => v = .tup [] ∧ hp = [.cel [.vec 1 2 (govNI y b s x).length], .dead, .vec 1 (govNI y b s x).length (rowI .i64 (natI (govNI y b s x))) false])
  unfold fBI fB
  refine p_fn ?_
  show PTri E false [0, 1] _ [i64 (x : Nat), .fptr 1 1 (fun _ => [i64 y]) 0 0, .ptr 0 0, .fptr 1 1 (fun _ => [i64 (b : Nat)]) 0 0, .junk] _ _
  refine p_weakD [some 0, some 1, some 1] [] [1] (T' := [i64 (x : Nat), .fptr 1 1 (fun _ => [i64 y]) 0 0, .ptr 0 0, .fptr 1 1 (fun _ => [i64 (b : Nat)]) 0 0, .junk]) (hp' := [.cel [.vec 1 2 s.length], .dead, .vec 1 s.length (rowI .i64 (natI s)) false]) (.cons (.nlv rfl) (.cons (.nlv rfl) (.cons (.one (.ptr rfl)) (.cons (.nlv rfl) (.cons (.nlv rfl) .nil))))) (.cons (.cel rfl (by simp) rfl (.cons (.one (.vec rfl rfl)) .nil)) (.cons .dead (.cons bs_same .nil))) ?_
  refine s_run ?_
  refine e_cond (fun h1 => ?_) (fun h1 => ?_)
  · have hxy : ((x : Nat) : Int) = y := eq_of_beq h1
    have hg : govNI y b s x = s ++ [b] := if_pos hxy
    refine p_post ?_
    refine e_run (hq := by simp only [room, true_and, and_true]; omega) ?_
    refine ⟨[some 0, some 1, some 4], [], [.junk, .junk, .ptr 0 0, .junk, .junk], [.cel [.vec 1 2 (s.length + 1)], .dead, .vec 1 (s.length + 1) (rowI .i64 (natI (s ++ [b]))) false], wk _ [] _ _ (blks := .cons (.cel rfl (by simp) rfl (.cons (.one (.vec rfl (by simp))) .nil)) (.cons .dead (.cons (.vec rfl (by simp) rfl (by simp) (fun h => nomatch h) fun i hi => ?_) .nil))), ?_⟩
    · rw [natI_snoc]
      have := row1_push (en := i64) (d := 0) (x := ((b : Nat) : Int)) (xs := natI s) (i := i) (by rw [natI_len]; simpa using hi)
      rw [natI_len] at this
      exact this
    · rw [hg, List.length_append, List.length_singleton]; exact fin ⟨rfl, rfl⟩
  · have hxy : ((x : Nat) : Int) ≠ y := fun q => by
      rw [q] at h1
      rw [beq_self_eq_true] at h1
      cases h1
    have hg : govNI y b s x = s := if_neg hxy
    refine p_skip ?_
    rw [hg]
    exact fin ⟨rfl, rfl⟩
noncomputable def gTI (f : Fn) (a : Int) (x7 x9 : PV) : List PV := [encF f, i64 a, .ptr 0 0, fBI a, .junk, .ptr 1 0, .ptr 3 0, x7, i64 (f.code.length : Nat), x9, .junk]
theorem governsO_ok {f : Fn} (hf : Fit f.code) (a : Int) : PCall E [] 43 [encF f, i64 a] [] (fun v hp => TreeR f.code (nrT f.code) ∧ ownQ (natI (govI f.code a f.code.length)) v hp) := by
  have f1 := hf.len
  refine p_fn ?_
  show PTri E false [] _ [encF f, i64 a, .junk, .junk, .junk, .junk, .junk, .junk, .junk, .junk, .junk] _ _
  refine p_post ?_
  refine s_run ?_
  refine s_reg (g_run 1 ?_)
  refine g_scall [] [] (args' := [encF f]) (hpc := []) (newWalker_ok hf) (wk _ [] _ _ (vals := .cons (.nlv rfl) .nil) (blks := .nil)) ?_
  rintro v hpc' ⟨hT, rfl, rfl⟩
  refine ⟨rfl, rfl, Nat.zero_le _, ?_⟩
  refine g_end ?_
  refine s_run ?_
  refine s_ass (s_run ?_)
  have hpt : ∀ {σ : Sig} {fz : List Nat} {hp : PH} {b : Nat} {z : Int}, hp[b]? = some (.cel [i64 z]) → b ∈ fz → VSub1 σ fz hp (.ptr b 0) (fBI z) := fun hb hm => .ptrf hm hb (by omega) rfl (by simp) (by simp [i64, nlb]) fun i hi => by
    have : i = 0 := by omega
    subst this; rfl
  refine s_loop (ι := Nat × List Int) (fun i => i.1 ≤ f.code.length ∧ i.2.length = f.code.length + 1 ∧ ∀ a, a < f.code.length + 1 → i.2.getD a 0 ≤ ((i.1 : Nat) : Int)) (fun i => f.code.length - i.1) (fun i => gTI f a .junk (i64 (i.1 : Nat))) (fun i => gN f i.2 (govI f.code a i.1)) (0, List.replicate (f.code.length + 1) 0) ⟨Nat.zero_le _, by simp, fun a ha => by simp [List.getD_eq_getElem?_getD, List.getElem?_replicate, ha]⟩ (σ := [some 0, some 2, some 3, some 4, none]) (fz := [1]) (wk _ [1] _ _ (vals := ?_) (blks := .cons (.cel rfl (by simp) rfl (.cons (.nlv rfl) (.cons (.nlv rfl) (.cons (.nlv rfl) (.cons (.nlv rfl) (.cons (.nlv rfl) (.cons (.nlv rfl) .nil))))))) (.cons (.cel rfl (by simp) rfl (.cons (.nlv rfl) (.cons (.nlv rfl) (.cons (.one (.vec rfl rfl)) .nil)))) (.cons bs_same (.cons (.cel rfl (by simp) rfl (.cons (.one (.nil rfl)) .nil)) (.cons (.nil rfl) .nil)))))) ?_
  · dsimp only [gTI]
    exact .cons (.nlv rfl) (.cons (.nlv rfl) (.cons (.one (.ptr rfl)) (.cons (.one (hpt rfl (by decide))) (.cons (.one (.junk _)) (.cons (.one (.ptr rfl)) (.cons (.one (.ptr rfl)) (.cons (.one (.junk _)) (.cons (.nlv rfl) (.cons (.nlv rfl) (.cons (.one (.junk _)) .nil))))))))))
  rintro ⟨k, met⟩ ⟨hk, hm, hle⟩
  dsimp only at hk hm hle ⊢
  have hgl := govI_len (code := f.code) (a := a) (k := k)
  unfold gTI gN eM vW fBI
  refine s_run ?_
  refine s_cond (fun h2 => ?_) (fun h2 => ?_)
  · simp only [decide_eq_true_eq] at h2
    refine s_skip (s_block ?_)
    refine s_run ?_
    refine e_reg (g_run 2 ?_)
    refine g_scall [1, 2, 3, 4] [5] (args' := [.ptr 0 0, i64 (k : Nat), .fn 81 [] [fBI a, .ptr 2 0, fB k]]) (hpc := eI f.code false [] List.length (fun l => rowI .i64 (natI l)) met (govI f.code a k)) (each_ok hT f1 (govTI (n := f.code.length) (y := a) (b := k) (by omega)) (by omega) hm hle (k := k) hgl (by omega)) (wk _ [5] [.ptr 0 0, i64 (k : Nat), .fn 81 [] [fBI a, .ptr 2 0, fB k]] [eW f.code, eM f.code met, .cel [.vec 1 3 (govI f.code a k).length], .vec 1 (govI f.code a k).length (rowI .i64 (natI (govI f.code a k))) false] (vals := .cons (.one (.ptr rfl)) (.cons (.nlv rfl) (.cons (.fn .nil (.cons (.same rfl) (.cons (.ptr rfl) (.cons (hpt (b := 5) rfl (.head _)) .nil)))) .nil))) (blks := .cons (.cel rfl (by simp) rfl (.cons (.nlv rfl) (.cons (.nlv rfl) (.cons (.one (.vec rfl rfl)) .nil)))) (.cons bs_same (.cons (.cel rfl (by simp) rfl (.cons (.one (.vec (b := 4) rfl rfl)) .nil)) (.cons (bs_same (i := 4)) .nil))))) ?_
    rintro v hpc' ⟨rfl, met', tl, ht, rfl⟩
    have hs := govI_step (a := a) ht
    refine ⟨rfl, rfl, by simp [eO], ?_⟩
    refine g_fin ?_
    refine e_run ?_
    refine lp_next (k + 1, met') ⟨by omega, ht.len, ht.le⟩ (σ := [some 0, some 1, some 2, some 3, some 6]) (fz := []) (wk _ [] _ _ (vals := ?_) (blks := .cons (.cel rfl (by simp) rfl (.cons (.nlv rfl) (.cons (.nlv rfl) (.cons (.nlv rfl) (.cons (.nlv rfl) (.cons (.nlv rfl) (.cons (.nlv rfl) .nil))))))) (.cons (.cel rfl (by simp) rfl (.cons (.nlv rfl) (.cons (.nlv rfl) (.cons (.one (.vec rfl rfl)) .nil)))) (.cons bs_same (.cons (.cel rfl (by simp) rfl (.cons (.one (.vec rfl (by rw [hs]))) .nil)) (.cons (.vec rfl (by simp) rfl (by rw [hs]; exact Nat.le_refl _) (fun h => nomatch h) fun j hj => by rw [hs]) .nil))))))
    · dsimp only [gTI]
      repeat' (first | exact VSubs.nil | apply VSubs.cons | exact VSub.one (VSub1.junk _) | exact VSub.nlv rfl | exact VSub.one (VSub1.ptr rfl))
  simp only [decide_eq_false_iff_not] at h2
  have hkl : k = f.code.length := by omega
  subst hkl
  refine s_exit ?_
  have hnl : (natI (govI f.code a f.code.length)).length = (govI f.code a f.code.length).length := natI_len _
  refine p_weak [some 3, some 4] [] (wk _ [] [.junk, .junk, .junk, .junk, .junk, .junk, .ptr 0 0, .junk, .junk, .junk, .junk] [.cel [.vec 1 1 (natI (govI f.code a f.code.length)).length], .vec 1 (natI (govI f.code a f.code.length)).length (rowI .i64 (natI (govI f.code a f.code.length))) false] (vals := ?_) (blks := .cons (.cel rfl (by simp) rfl (.cons (.one (.vec rfl hnl.symm)) .nil)) (.cons (.vec rfl (by simp) rfl (Nat.le_of_eq hnl) (fun h => nomatch h) fun _ _ => rfl) .nil))) ?_
  · repeat' (first | exact VSubs.nil | apply VSubs.cons | exact VSub.one (VSub1.junk _) | exact VSub.nlv rfl | exact VSub.one (VSub1.ptr rfl))
  refine s_reg (g_run 1 ?_)
  refine g_scall [1] [] (args' := [.vec 1 0 (natI (govI f.code a f.code.length)).length]) (hpc := [.vec 1 (natI (govI f.code a f.code.length)).length (rowI .i64 (natI (govI f.code a f.code.length))) false]) (clipO_ok _ _ _) (wk _ [] _ _ (vals := .cons (.one (.vec rfl rfl)) .nil) (blks := .cons bs_same .nil)) ?_
  rintro v hpc' ⟨rfl, rfl⟩
  refine ⟨rfl, rfl, Nat.le_refl _, ?_⟩
  refine g_end ?_
  refine p_ret ?_
  exact ⟨[some 1], [], [.junk, .junk, .junk, .junk, .exv 1 0 (natI (govI f.code a f.code.length)).length, .junk, .junk, .junk, .junk, .junk, .junk], [.vec 1 (natI (govI f.code a f.code.length)).length (rowI .i64 (natI (govI f.code a f.code.length))) false], wk _ [] _ _ (vals := by (repeat' (first | exact VSubs.nil | apply VSubs.cons | exact VSub.one (VSub1.junk _) | exact VSub.one (VSub1.exv rfl rfl)))) (blks := .cons bs_same .nil), fin ⟨hT, rfl, rfl⟩⟩
end Go.Proofs.Ytollibkfagjnaaa.Graph
