/- The law's search: is there a way to the exit that leaves a node out? -/
import Derived.Test.YtdbehmepikhghaaPostAb
set_option linter.unusedVariables false
set_option linter.unusedSimpArgs false
set_option maxRecDepth 10000
namespace Go.Proofs.Ytdbehmepikhghaa.Graph
open Go.Proofs.Ytdbehmepikhghaa.AM Go.Proofs.Ytdbehmepikhghaa.Post
def nxQ (code : List (Int × Int)) (q : Nat) (a : Nat) : List Int := (nextI code (a : Nat)).filter fun c => decide (c ≠ (q : Int))
theorem mem_nxQ {code : List (Int × Int)} {q a c : Nat} : ((c : Nat) : Int) ∈ nxQ code q a ↔ c ∈ nxN code a ∧ c ≠ q := by
  unfold nxQ
  rw [List.mem_filter, ← next_nat, mem_natI, decide_eq_true_eq]
  constructor
  · exact fun ⟨h1, h2⟩ => ⟨h1, fun e => h2 (by rw [e])⟩
  · exact fun ⟨h1, h2⟩ => ⟨h1, fun e => h2 (by omega)⟩
/-- In the midst of it: the first i of the list are done. -/
structure Bfs (code : List (Int × Int)) (q s : Nat) (seen : List Bool) (todo : List Nat) (i : Nat) : Prop where
  sr : Srch (nxQ code q) (code.length + 1) s seen (natI todo)
  nd : todo.Nodup
  all : ∀ b, b < code.length + 1 → seen.getD b false = true → b ∈ todo
  cl : ∀ j b, j < i → todo[j]? = some b → ∀ c : Nat, c ∈ nxN code b → c ≠ q → seen.getD c false = true
  ile : i ≤ todo.length
structure BfsK (code : List (Int × Int)) (q s : Nat) (seen : List Bool) (todo : List Nat) (i a k : Nat) : Prop where
  b : Bfs code q s seen todo i
  at' : todo[i]? = some a
  kl : k ≤ (nxN code a).length
  cl : ∀ c, c ∈ (nxN code a).take k → c ≠ q → seen.getD c false = true
section
variable {code : List (Int × Int)} {q s i a k : Nat} {seen : List Bool} {todo : List Nat}
theorem Bfs.lt (h : Bfs code q s seen todo i) {a : Nat} (ha : a ∈ todo) : a < code.length + 1 ∧ seen.getD a false = true := by
  obtain ⟨b, e, h1, h2⟩ := h.sr.todo _ (mem_natI.2 ha)
  have : b = a := by omega
  exact this ▸ ⟨h1, h2⟩
theorem Bfs.len (h : Bfs code q s seen todo i) : todo.length ≤ code.length + 1 := nodup_lt h.nd fun a ha => (h.lt ha).1
theorem bfs_start (hs : s < code.length + 1) : Bfs code q s ((List.replicate (code.length + 1) false).set s true) [s] 0 := by
  have hg : ∀ b, ((List.replicate (code.length + 1) false).set s true).getD b false = true ↔ b = s := fun b => by
    rw [getD_set (by simpa using hs), rep_false]
    by_cases e : b = s <;> simp [e]
  refine ⟨⟨by simp, fun b hb q => ?_, fun x hx => ?_, (hg s).2 rfl, hs⟩, by simp, fun b _ q => by rw [(hg b).1 q]; simp, fun j b hj => absurd hj (by omega), Nat.zero_le _⟩
  · rw [(hg b).1 q]; exact .refl
  · exact ⟨s, by simpa [natI] using hx, hs, (hg s).2 rfl⟩
theorem bfs_skip (h : BfsK code q s seen todo i a k) {c : Nat} (hc : (nxN code a)[k]? = some c) (hq : c = q ∨ seen.getD c false = true) : BfsK code q s seen todo i a (k + 1) := by
  refine ⟨h.b, h.at', by have := (List.getElem?_eq_some_iff.1 hc).1; omega, fun d hd hdq => ?_⟩
  rw [take_snoc hc] at hd
  rcases List.mem_append.1 hd with w | w
  · exact h.cl d w hdq
  · have : d = c := by simpa using w
    subst this
    exact hq.resolve_left hdq
theorem bfs_push (h : BfsK code q s seen todo i a k) {c : Nat} (hc : (nxN code a)[k]? = some c) (hq : c ≠ q) (hs : seen.getD c false = false) : BfsK code q s (seen.set c true) (todo ++ [c]) i a (k + 1) := by
  have hca := List.mem_of_getElem? hc
  have hcn := (nx_lt hca).2
  have ham := List.mem_of_getElem? h.at'
  obtain ⟨h1, h2⟩ := h.b.lt ham
  have hl := h.b.sr.len
  have hil := (List.getElem?_eq_some_iff.1 h.at').1
  have up : ∀ {d : Nat}, seen.getD d false = true → (seen.set c true).getD d false = true := fun {d} e => by
    rw [getD_set (by omega)]; split
    · rfl
    · exact e
  have self : (seen.set c true).getD c false = true := by rw [getD_set (by omega), if_pos rfl]
  refine ⟨⟨?_, ?_, fun b hb e => ?_, fun j b hj hb d hd hdq => ?_, by simp; omega⟩, by rw [List.getElem?_append_left hil]; exact h.at', by have := (List.getElem?_eq_some_iff.1 hc).1; omega, fun d hd hdq => ?_⟩
  · rw [natI_snoc]
    exact h.b.sr.push h1 h2 (mem_nxQ.2 ⟨hca, hq⟩) hcn
  · refine List.nodup_append.2 ⟨h.b.nd, by simp, fun x hx y hy => ?_⟩
    have : y = c := by simpa using hy
    subst this
    intro e
    subst e
    rw [(h.b.lt hx).2] at hs
    cases hs
  · rw [getD_set (by omega)] at e
    by_cases w : b = c
    · subst w; simp
    · rw [if_neg w] at e
      exact List.mem_append_left _ (h.b.all b hb e)
  · rw [List.getElem?_append_left (by omega)] at hb
    exact up (h.b.cl j b hj hb d hd hdq)
  · rw [take_snoc hc] at hd
    rcases List.mem_append.1 hd with w | w
    · exact up (h.cl d w hdq)
    · have : d = c := by simpa using w
      subst this; exact self
theorem bfs_next (h : BfsK code q s seen todo i a k) (hk : (nxN code a).length ≤ k) : Bfs code q s seen todo (i + 1) := by
  refine ⟨h.b.sr, h.b.nd, h.b.all, fun j b hj hb c hc hq => ?_, (List.getElem?_eq_some_iff.1 h.at').1⟩
  by_cases e : j = i
  · subst e
    rw [h.at'] at hb
    cases hb
    exact h.cl c (by rw [List.take_of_length_le hk]; exact hc) hq
  · exact h.b.cl j b (by omega) hb c hc hq
theorem av_snoc {nx : Nat → List Nat} {q a b c : Nat} (h : Av nx q a b) (hc : c ∈ nx b) (hq : c ≠ q) : Av nx q a c := by
  induction h with
  | refl h => exact .step h hc (.refl hq)
  | step h hd _ ih => exact .step h hd (ih hc)
theorem wayG_av (hs : s ≠ q) {b : Nat} : WayG (nxQ code q) s b ↔ Av (nxN code) q s b := by
  constructor
  · intro w
    induction w with
    | refl => exact .refl hs
    | step _ hc ih =>
      obtain ⟨h1, h2⟩ := mem_nxQ.1 hc
      exact av_snoc ih h1 h2
  · have key : ∀ {s b : Nat}, Av (nxN code) q s b → WayG (nxQ code q) s b := by
      intro s b w
      induction w with
      | refl _ => exact .refl
      | step _ hc t ih => exact WayG.head (mem_nxQ.2 ⟨hc, t.from⟩) ih
    exact key
theorem bfs_done (h : Bfs code q s seen todo i) (hi : todo.length ≤ i) (hs : s ≠ q) : seen.getD code.length false = pB (s ≠ q ∧ Av (nxN code) q s code.length) := by
  have hsl := h.sr.start'
  have := h.sr.done fun b c hb hbs hc => by
    obtain ⟨h1, h2⟩ := mem_nxQ.1 hc
    obtain ⟨j, hj, e⟩ := List.getElem_of_mem (h.all b hb hbs)
    exact ⟨(nx_lt h1).2, h.cl j b (by omega) (by rw [List.getElem?_eq_getElem hj, e]) c h1 h2⟩
  rw [this, Bool.eq_iff_iff, reachG_at (by omega), pB_iff, Int.toNat_natCast, wayG_av hs]
  constructor
  · exact fun ⟨_, _, w⟩ => ⟨hs, w⟩
  · exact fun ⟨_, w⟩ => ⟨by omega, by omega, w⟩
end
def wT (f : Fn) (p q : Nat) (t : Nat) (x8 x9 x10 : PV) : List PV := [.junk, i64 (p : Nat), i64 (q : Nat), .ptr 0 0, .s (.bool false), i64 (f.code.length : Nat), .vec 1 1 (f.code.length + 1), .vec 1 2 t, x8, x9, x10, .junk, .junk, .junk, .junk]
def wHp (f : Fn) (seen : List Bool) (todo : List Nat) : PH := [.cel (cellsF f), .vec 1 (f.code.length + 1) (rowB seen) true, .vec 1 todo.length (rowI .i64 (natI todo)) true]
theorem way_ok {f : Fn} (hf : Fit f.code) {p q : Nat} (hp : p < f.code.length + 1) (hq : q < f.code.length + 1) : PFun E 46 [encF f, i64 (p : Nat), i64 (q : Nat)] (valQ (isV (.s (.bool (pB (p ≠ q ∧ Av (nxN f.code) q p f.code.length)))))) := by
  have f1 := hf.len
  refine p_fun ?_
  show PTri E false [] _ [encF f, i64 (p : Nat), i64 (q : Nat), .junk, .junk, .junk, .junk, .junk, .junk, .junk, .junk, .junk, .junk, .junk, .junk] _ _
  refine s_run ?_
  refine s_run ?_
  refine s_ass (s_reg (g_run 1 ?_))
  refine prg_split (fun h0 => ?_) (fun h0 => ?_)
  · simp only [beq_iff_eq] at h0
    have he : p = q := by omega
    have : pB (p ≠ q ∧ Av (nxN f.code) q p f.code.length) = false := pB_not.2 fun h => h.1 he
    rw [this]
    refine g_end ?_
    refine s_t (s_ass (s_run ?_))
    exact s_ret fin_v
  simp only [beq_eq_false_iff_ne, ne_eq] at h0
  have hne : p ≠ q := fun e => h0 (by rw [e])
  refine g_end ?_
  refine s_f (s_skip ?_)
  refine s_reg (g_run 1 ?_)
  refine prg_head (v' := i64 (f.code.length + 1 : Nat)) rfl ?_
  refine g_end ?_
  refine s_run ?_
  refine s_run ?_
  refine s_ass (s_run ?_)
  refine s_loop (ι := List Bool × List Nat × Nat) (fun x => Bfs f.code q p x.1 x.2.1 x.2.2) (fun x => f.code.length + 1 - x.2.2) (fun x => wT f p q x.2.1.length (i64 (x.2.2 : Nat)) .junk .junk) (fun x => wHp f x.1 x.2.1) ((List.replicate (f.code.length + 1) false).set p true, [p], 0) (bfs_start hp) (σ := [some 0, some 1, some 2]) (wk _ [] _ _ (vals := ?_) (blks := .cons bs_cel (.cons (bs_vec rfl fun j hj => ?_) (.cons (bs_vec rfl fun j hj => ?_) .nil)))) ?_
  · unfold wT
    repeat' (first | exact VSubs.nil | apply VSubs.cons | exact VSub.one (VSub1.junk _) | exact VSub.nlv rfl | exact VSub.one (VSub1.ptr rfl) | exact VSub.one (VSub1.vec rfl rfl))
  · have := row1_set (en := fun b => .s (.bool b)) (d := false) (xs := List.replicate (f.code.length + 1) false) (c := p) (x := true) (.s (.bool true)) rfl (i := j) (by simpa using hj)
    rw [rowB_eq, ← this]
    by_cases e : j = p
    · rw [if_pos e, if_pos e, ← rowB_eq]
      congr 1
      exact rowB_rep (f.code.length + 1) j
    · rw [if_neg e, if_neg e, ← rowB_eq]
      exact rowB_rep (f.code.length + 1) j
  · have : j = 0 := by simpa using hj
    subst this; rfl
  rintro ⟨seen, todo, i⟩ hB
  simp only at hB
  have htl := hB.len
  have hnl := natI_len todo
  unfold wT wHp
  refine s_ass (s_run ?_)
  refine s_cond (fun h1 => ?_) (fun h1 => ?_)
  · simp only [decide_eq_true_eq] at h1
    have hi : i < todo.length := by omega
    obtain ⟨a, ha⟩ : ∃ a, todo[i]? = some a := ⟨_, List.getElem?_eq_getElem hi⟩
    have had : (natI todo).getD i 0 = ((a : Nat) : Int) := by
      rw [natI_at hi, List.getD_eq_getElem?_getD, ha]; rfl
    have hn2 := nextI_len f.code (a : Nat)
    have hnn : (nxN f.code a).length = (nextI f.code (a : Nat)).length := by rw [← next_nat, natI_len]
    refine s_skip (s_block ?_)
    refine s_drw (g_run 3 ?_)
    rw [had]
    refine g_call (next_ok hf (a : Nat)) ?_
    rintro v rfl
    refine ⟨rfl, ?_⟩
    refine g_end ?_
    refine s_run ?_
    refine e_loop (ι := List Bool × List Nat × Nat) (fun x => BfsK f.code q p x.1 x.2.1 i a x.2.2) (fun x => (nxN f.code a).length - x.2.2) (fun x => wT f p q x.2.1.length (i64 (i : Nat)) (encI (nextI f.code (a : Nat))) (i64 (x.2.2 : Nat))) (fun x => wHp f x.1 x.2.1) (seen, todo, 0) ⟨hB, ha, Nat.zero_le _, fun c hc => by simp at hc⟩ (σ := [some 0, some 1, some 2]) (wk _ [] _ _ (vals := ?_) (blks := .cons bs_cel (.cons bs_same (.cons bs_same .nil)))) ?_
    · unfold wT
      repeat' (first | exact VSubs.nil | apply VSubs.cons | exact VSub.one (VSub1.junk _) | exact VSub.nlv rfl | exact VSub.one (VSub1.ptr rfl) | exact VSub.one (VSub1.vec rfl rfl))
    rintro ⟨seen', todo', k⟩ hK
    simp only at hK
    have htl' := hK.b.len
    have hnl' := natI_len todo'
    unfold wT wHp
    refine s_ass (s_run ?_)
    refine s_cond (fun h2 => ?_) (fun h2 => ?_)
    · simp only [decide_eq_true_eq] at h2
      have hk : k < (nxN f.code a).length := by omega
      obtain ⟨c, hc⟩ : ∃ c, (nxN f.code a)[k]? = some c := ⟨_, List.getElem?_eq_getElem hk⟩
      have hcd : (nextI f.code (a : Nat)).getD k 0 = ((c : Nat) : Int) := by
        rw [← next_nat, natI_at hk, List.getD_eq_getElem?_getD, hc]; rfl
      have hcn := (nx_lt (List.mem_of_getElem? hc)).2
      refine s_skip (s_block (s_reg (g_run 2 ?_)))
      rw [hcd]
      refine g_run 1 ?_
      refine prg_split (fun h3 => ?_) (fun h3 => ?_)
      · simp only [bne_iff_ne, ne_eq] at h3
        have hcq : c ≠ q := fun e => h3 (by rw [e])
        refine g_run 5 ?_
        rw [hcd]
        refine g_run 2 ?_
        cases hs : seen'.getD c false with
        | true =>
          refine g_end ?_
          refine e_f ?_
          refine p_skip ?_
          refine e_run ?_ (hq := by (try dsimp only); simp only [in64, and_true, true_and]; omega)
          refine lp_next (seen', todo', k + 1) (bfs_skip hK hc (.inr hs)) (wk [some 0, some 1, some 2] [] _ _ (vals := ?_) (blks := .cons bs_cel (.cons bs_same (.cons bs_same .nil))))
          try dsimp only [wT]
          repeat' (first | exact VSubs.nil | apply VSubs.cons | exact VSub.one (VSub1.junk _) | exact VSub.nlv rfl | exact VSub.one (VSub1.ptr rfl) | exact VSub.one (VSub1.vec rfl rfl))
        | false =>
          refine g_end ?_
          refine e_t ?_
          refine s_reg (g_run 2 ?_)
          rw [hcd]
          refine g_end ?_
          refine e_reg (g_run 2 ?_)
          rw [hcd]
          refine g_end ?_ (hq := by simp only [room, true_and, and_true]; omega)
          refine e_run ?_ (hq := by (try dsimp only); simp only [in64, and_true, true_and]; omega)
          refine lp_next (seen'.set c true, todo' ++ [c], k + 1) (bfs_push hK hc hcq hs) (wk [some 0, some 1, some 4] [] _ _ (vals := ?_) (blks := .cons bs_cel (.cons (bs_vec rfl fun j hj => ?_) (.cons (bs_vec (n := todo'.length + 1) (by simp) fun j hj => ?_) .nil))))
          · dsimp only [wT]
            rw [show (todo' ++ [c]).length = todo'.length + 1 by simp]
            repeat' (first | exact VSubs.nil | apply VSubs.cons | exact VSub.one (VSub1.junk _) | exact VSub.nlv rfl | exact VSub.one (VSub1.ptr rfl) | exact VSub.one (VSub1.vec rfl rfl))
          · exact row1_set (en := fun b => .s (.bool b)) (d := false) (xs := seen') (c := c) (x := true) _ rfl (by rw [hK.b.sr.len]; exact hj)
          · rw [natI_snoc]
            have := row1_push (en := i64) (d := 0) (x := ((c : Nat) : Int)) (xs := natI todo') (i := j) (by rw [natI_len]; simpa using hj)
            rw [natI_len] at this
            exact this
      · simp only [bne_eq_false_iff_eq] at h3
        have hcq : c = q := by omega
        refine g_end ?_
        refine e_f ?_
        refine p_skip ?_
        refine e_run ?_ (hq := by (try dsimp only); simp only [in64, and_true, true_and]; omega)
        refine lp_next (seen', todo', k + 1) (bfs_skip hK hc (.inl hcq)) (wk [some 0, some 1, some 2] [] _ _ (vals := ?_) (blks := .cons bs_cel (.cons bs_same (.cons bs_same .nil))))
        try dsimp only [wT]
        repeat' (first | exact VSubs.nil | apply VSubs.cons | exact VSub.one (VSub1.junk _) | exact VSub.nlv rfl | exact VSub.one (VSub1.ptr rfl) | exact VSub.one (VSub1.vec rfl rfl))
    · simp only [decide_eq_false_iff_not] at h2
      refine s_exit ?_
      refine e_run ?_ (hq := by (try dsimp only); simp only [in64, and_true, true_and]; omega)
      refine lp_next (seen', todo', i + 1) (bfs_next hK (by omega)) (wk [some 0, some 1, some 2] [] _ _ (vals := ?_) (blks := .cons bs_cel (.cons bs_same (.cons bs_same .nil))))
      try dsimp only [wT]
      repeat' (first | exact VSubs.nil | apply VSubs.cons | exact VSub.one (VSub1.junk _) | exact VSub.nlv rfl | exact VSub.one (VSub1.ptr rfl) | exact VSub.one (VSub1.vec rfl rfl))
  · simp only [decide_eq_false_iff_not] at h1
    refine s_exit ?_
    refine s_reg (g_run 2 ?_)
    rw [bfs_done hB (by omega) hne]
    refine g_end ?_
    exact p_ret fin_v
end Go.Proofs.Ytdbehmepikhghaa.Graph
