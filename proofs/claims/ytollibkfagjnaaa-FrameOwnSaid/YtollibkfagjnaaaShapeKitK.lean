/- The worker's methods, called from where there are other blocks. -/
import Derived.Test.YtollibkfagjnaaaShapeKitJ
set_option linter.unusedVariables false
set_option linter.unusedSimpArgs false
set_option maxRecDepth 10000
namespace Go.Proofs.Ytollibkfagjnaaa.Shape.Kit
open Go.Proofs.Ytollibkfagjnaaa.AM
theorem putL_rest {σ fz : List Nat} {n : Nat} {hpc : PH} : ∀ (j : Nat) (l : PH), (∀ i, j ≤ i → inv σ i = none ∧ fz.contains i = false) → putL σ fz n hpc j l = l ++ (hpc.drop σ.length).map (renB (kap σ n))
  | _, [], _ => rfl
  | j, B :: r, h => by
    have h0 := h j (Nat.le_refl _)
    simp only [putL, putB, h0.1, h0.2, cond_false, List.cons_append]
    rw [putL_rest (j + 1) r fun i hi => h i (by omega)]
theorem inv012 (i : Nat) (h : 3 ≤ i) : inv [0, 1, 2] i = none ∧ ([] : List Nat).contains i = false := by
  refine ⟨?_, rfl⟩
  obtain ⟨k, rfl⟩ : ∃ k, i = k + 3 := ⟨i - 3, by omega⟩
  rfl
section
variable {T L : List PV} {hp : PH} {l0 : Nat} {dr : Bool} {ops : List AOper} {Q : List PV → PH → Prop} {p : List Nat} {O : List Bool} {md : List Nat} {cnt : Nat} {rest : PH}
theorem emb_wH (xs ys : List Int) (n k : Nat) (lo lo' : List Int) (lvl : Int) (kept kept' : Bool) (rest : PH) : emb [0, 1, 2] [] (wH xs n lo lvl kept ++ rest) (wH ys k lo' lvl kept') = wH ys k lo' lvl kept' ++ rest := by
  show putB _ _ _ _ 0 _ :: putB _ _ _ _ 1 _ :: putB _ _ _ _ 2 _ :: putL [0, 1, 2] [] _ (wH ys k lo' lvl kept') 3 rest = _
  rw [putL_rest 3 rest inv012]
  simp only [List.length_cons, List.length_nil]
  rw [show (wH ys k lo' lvl kept').drop 3 = [] from rfl, List.map_nil, List.append_nil]
  rfl
theorem emb_wP (xs ys : List Int) (n : Nat) (lo : List Int) (lvl : Int) (kept : Bool) (rest : PH) : emb [0, 1, 2] [] (wH xs n lo lvl kept ++ rest) (wP ys lo lvl kept) = [wCel (3 + rest.length) ys.length lo.length lvl kept, .dead, .vec 1 lo.length (rowI .u64 lo) false] ++ rest ++ [.vec 1 ys.length (rowI .u64 ys) false] := by
  have hl : (wH xs n lo lvl kept ++ rest).length = 3 + rest.length := by rw [List.length_append]; rfl
  unfold emb
  rw [hl]
  show putB _ _ _ _ 0 _ :: putB _ _ _ _ 1 _ :: putB _ _ _ _ 2 _ :: putL [0, 1, 2] [] _ (wP ys lo lvl kept) 3 rest = _
  rw [putL_rest 3 rest inv012]
  rfl
theorem g_pop {fs : AM.Src} {lo' k : Nat} {xs lo : List Int} {lvl : Int} {kept : Bool} (hk : k < xs.length) (hl : xs.length < 17592186044415) (hP : PRg E p dr T ops l0 ⟨u64 (xs.getD k 0) :: L, false :: O, wH xs k lo lvl kept ++ rest, 0 :: 1 :: 2 :: md, cnt + 1⟩ Q)
    (h1 : psev T L fs = some (.fn 90 [.ptr 0 0] []) := by rfl) (hh : hp = wH xs (k + 1) lo lvl kept ++ rest := by rfl) : PRg E p dr T (⟨.call fs [], none, lo'⟩ :: ops) l0 ⟨L, O, hp, md, cnt⟩ Q := by
  subst hh
  refine prg_scall [0, 1, 2] [] (args' := [.ptr 0 0]) (hpc := wH xs (k + 1) lo lvl kept) h1 rfl rfl ?_ rfl (pop_ok xs lo k hk hl lvl kept) ?_
  · exact wk _ [] _ _
  · rintro v hpc' ⟨rfl, rfl⟩
    refine ⟨rfl, rfl, Nat.le_refl _, ?_⟩
    rw [emb_wH]
    exact hP
theorem g_need {fs a b : AM.Src} {lo' n : Nat} {xs lo : List Int} {lvl l r : Int} {kept : Bool} (hP : PRg E p dr T ops l0 ⟨.junk :: L, false :: O, wH xs n lo lvl (needB kept l lvl r) ++ rest, 0 :: 1 :: 2 :: md, cnt + 1⟩ Q)
    (h1 : psev T L fs = some (.fn 92 [.ptr 0 0] []) := by rfl) (h2 : pevs (psev T L) [a, b] = some [u64 l, u64 r] := by rfl) (hh : hp = wH xs n lo lvl kept ++ rest := by rfl) : PRg E p dr T (⟨.call fs [a, b], none, lo'⟩ :: ops) l0 ⟨L, O, hp, md, cnt⟩ Q := by
  subst hh
  refine prg_scall [0, 1, 2] [] (args' := [.ptr 0 0, u64 l, u64 r]) (hpc := wH xs n lo lvl kept) h1 h2 rfl ?_ rfl (need_ok xs lo n lvl kept l r) ?_
  · exact wk _ [] _ _
  · rintro v hpc' ⟨rfl, rfl⟩
    refine ⟨rfl, rfl, Nat.le_refl _, ?_⟩
    rw [emb_wH]
    exact hP
theorem g_last {w a : AM.Src} {lo' n j : Nat} {xs lo : List Int} {lvl : Int} {kept : Bool} (hn : n ≤ xs.length) (hj : j ≤ n) (hl : xs.length < 17592186044415) (hP : PRg E p dr T ops l0 ⟨.frz 1 j j (rowI .u64 (xs.drop (n - j))) :: L, false :: O, wH xs (n - j) lo lvl kept ++ rest, 0 :: 1 :: 2 :: md, cnt + 1⟩ Q)
    (h2 : pevs (psev T L) [w, a] = some [.ptr 0 0, i64 (j : Nat)] := by rfl) (hh : hp = wH xs n lo lvl kept ++ rest := by rfl) : PRg E p dr T (⟨.call (.func 93) [w, a], none, lo'⟩ :: ops) l0 ⟨L, O, hp, md, cnt⟩ Q := by
  subst hh
  refine prg_scall [0, 1, 2] [] (args' := [.ptr 0 0, i64 (j : Nat)]) (hpc := wH xs n lo lvl kept) rfl h2 rfl ?_ rfl (last_ok xs lo n j hn hj hl lvl kept) ?_
  · exact wk _ [] _ _
  · rintro v hpc' ⟨rfl, rfl⟩
    refine ⟨rfl, rfl, Nat.le_refl _, ?_⟩
    rw [emb_wH]
    exact hP
theorem g_push {fs a : AM.Src} {lo' n k : Nat} {xs lo : List Int} {lvl : Int} {kept : Bool} (l : List Int) (hn : n ≤ xs.length) (hl : n + l.length < 17592186044415)
    (hP : l ≠ [] → PRg E p dr T ops l0 ⟨.tup [] :: L, false :: O, [wCel (3 + rest.length) (pushL (xs.take n) lvl l).length lo.length lvl kept, .dead, .vec 1 lo.length (rowI .u64 lo) false] ++ rest ++ [.vec 1 (pushL (xs.take n) lvl l).length (rowI .u64 (pushL (xs.take n) lvl l)) false], 0 :: 1 :: 2 :: md, cnt + 1⟩ Q)
    (hP0 : l = [] → PRg E p dr T ops l0 ⟨.tup [] :: L, false :: O, wH xs n lo lvl kept ++ rest, 0 :: 1 :: 2 :: md, cnt + 1⟩ Q)
    (h1 : psev T L fs = some (.fn 91 [.ptr 0 0] []) := by rfl) (h2 : pevs (psev T L) [a] = some [.frz 1 l.length k (rowI .u64 l)] := by rfl) (hh : hp = wH xs n lo lvl kept ++ rest := by rfl) : PRg E p dr T (⟨.call fs [a], none, lo'⟩ :: ops) l0 ⟨L, O, hp, md, cnt⟩ Q := by
  subst hh
  refine prg_scall [0, 1, 2] [] (args' := [.ptr 0 0, .frz 1 l.length k (rowI .u64 l)]) (hpc := wH xs n lo lvl kept) h1 h2 rfl ?_ rfl (push_ok xs lo n hn lvl kept l k hl) ?_
  · exact wk _ [] _ _
  · rintro v hpc' ⟨rfl, rfl⟩
    cases l with
    | nil =>
      refine ⟨rfl, rfl, Nat.le_refl _, ?_⟩
      show PRg E p dr T ops l0 ⟨_, _, emb [0, 1, 2] [] (wH xs n lo lvl kept ++ rest) (wH xs n lo lvl kept), _, _⟩ Q
      rw [emb_wH]
      exact hP0 rfl
    | cons x l =>
      have e : pushH xs n lo lvl kept (x :: l) (x :: l).length = wP (pushL (xs.take n) lvl (x :: l)) lo lvl kept := by
        show wP (pushL (xs.take n) lvl ((x :: l).take (l.length + 1))) lo lvl kept = _
        rw [show l.length + 1 = (x :: l).length from rfl, List.take_length]
      rw [e]
      refine ⟨rfl, rfl, Nat.le_succ 3, ?_⟩
      show PRg E p dr T ops l0 ⟨_, _, emb [0, 1, 2] [] (wH xs n lo lvl kept ++ rest) (wP (pushL (xs.take n) lvl (x :: l)) lo lvl kept), _, _⟩ Q
      rw [emb_wP]
      exact hP (by simp)
/-- The labels that the worker keeps while it takes one off. -/
def wXC (lo : List Int) (lvl : Int) : PR → AH TV → Prop := XC 0 [(1, .vec 1 2 lo.length), (2, u64 lvl)]
theorem x_pop {fs : AM.Src} {lo' k : Nat} {xs lo : List Int} {lvl : Int} {kept : Bool} (hk : k < xs.length) (hl : xs.length < 17592186044415) (hP : PRgX (wXC lo lvl) E p T ops l0 ⟨u64 (xs.getD k 0) :: L, false :: O, wH xs k lo lvl kept ++ rest, 0 :: 1 :: 2 :: md, cnt + 1⟩ Q)
    (h1 : psev T L fs = some (.fn 90 [.ptr 0 0] []) := by rfl) (hh : hp = wH xs (k + 1) lo lvl kept ++ rest := by rfl) : PRgX (wXC lo lvl) E p T (⟨.call fs [], none, lo'⟩ :: ops) l0 ⟨L, O, hp, md, cnt⟩ Q := by
  subst hh
  refine x_scall [0, 1, 2] [] (args' := [.ptr 0 0]) (hpc := wH xs (k + 1) lo lvl kept) (pop_ok xs lo k hk hl lvl kept) ?_ ?_ h1 rfl rfl
  · exact wk _ [] _ _
  · rintro v hpc' ⟨rfl, rfl⟩
    refine ⟨rfl, rfl, Nat.le_refl _, ?_, ?_⟩
    · rw [emb_wH]
      refine ⟨_, rfl, fun off u hu => ?_⟩
      simp only [List.mem_cons, List.not_mem_nil, or_false, Prod.mk.injEq] at hu
      rcases hu with ⟨rfl, rfl⟩ | ⟨rfl, rfl⟩ <;> exact ⟨rfl, rfl⟩
    · rw [emb_wH]
      exact hP
end
end Go.Proofs.Ytollibkfagjnaaa.Shape.Kit
