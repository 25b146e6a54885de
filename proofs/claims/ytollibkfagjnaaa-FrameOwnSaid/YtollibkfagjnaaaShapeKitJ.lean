/- The worker: a stack and locals of one's own, a level, and whether all was within. -/
import Derived.Test.YtollibkfagjnaaaShapeKitI
import Derived.Test.YtollibkfagjnaaaPN
set_option linter.unusedVariables false
set_option linter.unusedSimpArgs false
set_option maxRecDepth 10000
namespace Go.Proofs.Ytollibkfagjnaaa.Shape.Kit
open Go.Proofs.Ytollibkfagjnaaa.AM
theorem p_fn {p : List Nat} {f : FuncId} {fn : AFunc} {args : List PV} {hp : PH} {R : PV → PH → Prop} (h : PTri E false p fn.body (fn.keep.map fun t => (args[t]?).getD .junk) hp (retQ fn.res R)) (hx : ∀ avs (H : AH TV), E.ext f avs H = none := by exact fun _ _ => rfl) (hf : E.fn f = some fn := by rfl) : PCall E p f args hp R := p_call hx hf h
/-- The worker's blocks: itself; its stack, the first n of these labels; its locals. -/
def wCel (sb n m : Nat) (lvl : Int) (kept : Bool) : PB := .cel [.vec 1 sb n, .vec 1 2 m, u64 lvl, .s (.bool kept)]
def wH (xs : List Int) (n : Nat) (lo : List Int) (lvl : Int) (kept : Bool) : PH := [wCel 1 n lo.length lvl kept, .vec 1 xs.length (rowI .u64 xs) false, .vec 1 lo.length (rowI .u64 lo) false]
/-- After something was put on. -/
def wP (xs : List Int) (lo : List Int) (lvl : Int) (kept : Bool) : PH := [wCel 3 xs.length lo.length lvl kept, .dead, .vec 1 lo.length (rowI .u64 lo) false, .vec 1 xs.length (rowI .u64 xs) false]
theorem pop_ok (xs lo : List Int) (k : Nat) (hk : k < xs.length) (hl : xs.length < 17592186044415) (lvl : Int) (kept : Bool) : PCall E [0, 1, 2] 90 [.ptr 0 0] (wH xs (k + 1) lo lvl kept) (fun v hp => v = u64 (xs.getD k 0) ∧ hp = wH xs k lo lvl kept) := by
  refine p_fn ?_
  show PTri E false _ _ [.ptr 0 0, .junk, .junk, .junk] _ _
  unfold wH wCel
  refine s_run ?_
  refine s_reg (g_run 6 ?_)
  refine prg_head (v' := i64 (k : Nat)) (by unfold i64; congr 2; omega) ?_
  refine g_end ?_
  refine s_run ?_
  refine s_run ?_
  refine s_run ?_
  exact p_ret (fin ⟨rfl, rfl⟩)
theorem p_fnw {p : List Nat} {f : FuncId} {fn : AFunc} {args : List PV} {hp : PH} {R : PV → PH → Prop} (h : PTri E false p fn.body (fn.keep.map fun t => (args[t]?).getD .junk) hp (retQ fn.res fun v hp' => ∃ σ fz v2 hp2, Weak p σ fz [v] hp' [v2] hp2 ∧ R v2 hp2)) (hx : ∀ avs (H : AH TV), E.ext f avs H = none := by exact fun _ _ => rfl) (hf : E.fn f = some fn := by rfl) : PCall E p f args hp R := call_post (p_call hx hf h)
/-- What is needed. -/
def needB (kept : Bool) (l lvl r : Int) : Bool := kept && inU (joinU [l, lvl]) r
theorem two_rowU {x y : Int} (i : Nat) (hi : i < 2) : ([u64 x, u64 y].drop (i * 1)).take 1 = rowI .u64 [x, y] i := by
  have : i = 0 ∨ i = 1 := by omega
  rcases this with rfl | rfl <;> rfl
theorem need_ok (xs lo : List Int) (n : Nat) (lvl : Int) (kept : Bool) (l r : Int) : PCall E [0, 1, 2] 92 [.ptr 0 0, u64 l, u64 r] (wH xs n lo lvl kept) (fun v hp => v = .junk ∧ hp = wH xs n lo lvl (needB kept l lvl r)) := by
  refine p_fnw ?_
  show PTri E false _ _ [.ptr 0 0, u64 l, u64 r] _ _
  unfold wH wCel needB
  cases kept with
  | false =>
    refine e_run ?_
    exact fin ⟨_, [], _, _, wk [some 0, some 1, some 2] [] [.junk] _, rfl, rfl⟩
  | true =>
    refine e_reg (g_run 9 ?_)
    refine prg_fz (k := 2) (row := rowI .u64 [l, lvl]) (fun i hi => two_rowU i hi) ?_
    refine g_call (join_ok (n := 2) (k := 2) [l, lvl] rfl (by decide)) ?_
    rintro v rfl
    refine ⟨rfl, ?_⟩
    refine g_run 1 ?_
    refine g_call (within_ok _ _) ?_
    rintro v rfl
    refine ⟨rfl, ?_⟩
    refine g_end ?_
    exact fin ⟨_, [], _, _, wk [some 0, some 1, some 2] [] [.junk] _, rfl, rfl⟩
/-- Labels put on, each with the level. -/
def pushL (S : List Int) (lvl : Int) (l : List Int) : List Int := S ++ l.map fun x => joinU [x, lvl]
theorem row_put {xs : List Int} {n : Nat} (hn : n ≤ xs.length) {x : Int} {i : Nat} (hi : i < n + 1) : (if i < n then rowI .u64 xs i else ([u64 x].drop ((i - n) * 1)).take 1) = rowI .u64 (xs.take n ++ [x]) i := by
  have hl : (xs.take n).length = n := by rw [List.length_take]; omega
  by_cases h : i < n
  · rw [if_pos h]
    unfold rowI
    rw [getD_pre (by omega)]
    simp only [List.getD_eq_getElem?_getD, List.getElem?_take, if_pos h]
  · have : i = n := by omega
    subst this
    rw [if_neg h, Nat.sub_self]
    unfold rowI
    have := getD_end (l := xs.take i) (x := x) (d := 0)
    rw [hl] at this
    rw [this]; rfl
theorem pushL_succ {S l : List Int} {lvl : Int} {i : Nat} (hi : i < l.length) : pushL S lvl (l.take i) ++ [joinU [l.getD i 0, lvl]] = pushL S lvl (l.take (i + 1)) := by
  unfold pushL
  rw [List.take_succ_eq_append_getElem hi, List.map_append, List.append_assoc, List.getD_eq_getElem?_getD, List.getElem?_eq_getElem hi]
  rfl
theorem pushL_len (S l : List Int) (lvl : Int) : (pushL S lvl l).length = S.length + l.length := by simp [pushL]
def pushH (xs : List Int) (n : Nat) (lo : List Int) (lvl : Int) (kept : Bool) (l : List Int) : Nat → PH
  | 0 => wH xs n lo lvl kept
  | i + 1 => wP (pushL (xs.take n) lvl (l.take (i + 1))) lo lvl kept
theorem push_ok (xs lo : List Int) (n : Nat) (hn : n ≤ xs.length) (lvl : Int) (kept : Bool) (l : List Int) (k : Nat) (hlen : n + l.length < 17592186044415) : PCall E [0, 1, 2] 91 [.ptr 0 0, .frz 1 l.length k (rowI .u64 l)] (wH xs n lo lvl kept) (fun v hp => v = .tup [] ∧ hp = pushH xs n lo lvl kept l l.length) := by
  have hS : (xs.take n).length = n := by rw [List.length_take]; omega
  refine p_fn ?_
  show PTri E false _ _ [.ptr 0 0, .frz 1 l.length k (rowI .u64 l), .junk, .junk, .junk, .junk, .junk] _ _
  refine s_run ?_
  refine e_loop (fun i => i ≤ l.length) (fun i => l.length - i) (fun i => [.ptr 0 0, .frz 1 l.length k (rowI .u64 l), .junk, .frz 1 l.length k (rowI .u64 l), i64 (l.length : Nat), i64 (i : Nat), .junk]) (fun i => pushH xs n lo lvl kept l i) 0 (Nat.zero_le _) (wk [some 0, some 1, some 2] [] _ _) ?_
  intro i hi
  have hpl : ∀ j, j ≤ l.length → (pushL (xs.take n) lvl (l.take j)).length = n + j := fun j hj => by rw [pushL_len, hS, List.length_take]; omega
  cases i with
  | zero =>
    unfold pushH wH wCel
    refine s_run ?_
    refine s_cond (fun h => ?_) (fun h => ?_)
    · simp only [decide_eq_true_eq] at h
      have hil : 0 < l.length := by omega
      refine s_skip (s_block (s_run ?_))
      refine e_drw (g_run 4 ?_)
      refine prg_fz (k := 2) (row := rowI .u64 [l.getD 0 0, lvl]) (fun i hi => two_rowU i hi) ?_
      refine g_call (join_ok (n := 2) (k := 2) [l.getD 0 0, lvl] rfl (by decide)) ?_
      rintro v rfl
      refine ⟨rfl, ?_⟩
      refine g_end ?_ (hq := by simp only [room, true_and, and_true]; omega)
      refine e_run ?_
      have e := pushL_succ (S := xs.take n) (lvl := lvl) hil
      refine lp_next 1 (by omega) (wk [some 0, some 1, some 2, some 5] [] _ _ (blks := ?_))
      simp only [pushH, wP, wCel, hpl 1 (by omega)]
      refine .cons (.cel rfl (by decide) rfl (.cons (.one (.vec rfl rfl)) (.cons (.one (.vec rfl rfl)) (.cons (.nlv rfl) (.cons (.nlv rfl) .nil))))) (.cons .dead (.cons bs_same (.cons (bs_vec rfl fun j hj => ?_) .nil)))
      rw [← e]
      simpa [pushL] using row_put hn hj
    · simp only [decide_eq_false_iff_not] at h
      have h0 : l.length = 0 := by omega
      refine s_exit ?_
      refine (show retQ [] (fun v hp => v = .tup [] ∧ hp = pushH xs n lo lvl kept l l.length) .norm _ _ from fin ⟨rfl, ?_⟩)
      rw [h0]; rfl
  | succ i =>
    have hlen' := hpl (i + 1) hi
    simp only [pushH]
    generalize hys : pushL (xs.take n) lvl (l.take (i + 1)) = ys at hlen' ⊢
    unfold wP wCel
    refine s_run ?_
    refine s_cond (fun h => ?_) (fun h => ?_)
    · simp only [decide_eq_true_eq] at h
      have hil : i + 1 < l.length := by omega
      refine s_skip (s_block (s_run ?_))
      refine e_drw (g_run 4 ?_)
      refine prg_fz (k := 2) (row := rowI .u64 [l.getD (i + 1) 0, lvl]) (fun i hi => two_rowU i hi) ?_
      refine g_call (join_ok (n := 2) (k := 2) [l.getD (i + 1) 0, lvl] rfl (by decide)) ?_
      rintro v rfl
      refine ⟨rfl, ?_⟩
      refine g_end ?_ (hq := by simp only [room, true_and, and_true]; omega)
      refine e_run ?_
      have e := pushL_succ (S := xs.take n) (lvl := lvl) hil
      rw [hys] at e
      refine lp_next (i + 2) (by omega) (wk [some 0, some 1, some 2, some 6] [] _ _ (blks := ?_))
      simp only [pushH, wP, wCel, ← e, List.length_append, List.length_singleton]
      refine .cons (.cel rfl (by decide) rfl (.cons (.one (.vec rfl rfl)) (.cons (.one (.vec rfl rfl)) (.cons (.nlv rfl) (.cons (.nlv rfl) .nil))))) (.cons .dead (.cons bs_same (.cons (bs_vec rfl fun j hj => ?_) .nil)))
      have := row_put (Nat.le_refl ys.length) (x := joinU [l.getD (i + 1) 0, lvl]) hj
      rw [List.take_length] at this
      exact this
    · simp only [decide_eq_false_iff_not] at h
      have h0 : l.length = i + 1 := by omega
      refine s_exit ?_
      refine (show retQ [] (fun v hp => v = .tup [] ∧ hp = pushH xs n lo lvl kept l l.length) .norm _ _ from fin ⟨rfl, ?_⟩)
      rw [h0, ← hys]; rfl
theorem cloneS_ok (xs : List Int) (at_ j : Nat) (h : at_ + j ≤ xs.length) (hl : xs.length < 17592186044415) (n : Nat) (lo : List Int) (lvl : Int) (kept : Bool) : PCall E [0, 1, 2] 55 [.sub 1 1 at_ j] (wH xs n lo lvl kept) (fun v hp => v = .frz 1 j j (rowI .u64 (xs.drop at_)) ∧ hp = wH xs n lo lvl kept) := by
  refine p_fnw ?_
  show PTri E false _ _ [.sub 1 1 at_ j, .junk, .junk] _ _
  unfold wH wCel
  refine s_run ?_
  refine s_ass (s_reg ?_)
  refine prg_isnils rfl rfl fun t ht => ?_
  refine g_end ?_
  refine s_cond (fun h => ?_) (fun h => ?_)
  · have h0 : j = 0 := by cases t <;> simp_all
    subst h0
    refine s_ass (s_run ?_)
    exact s_ret (fin ⟨_, [], _, _, wk [some 0, some 1, some 2] [] [.frz 1 0 0 (rowI .u64 (xs.drop at_))] _ (vals := .cons (.one .nilf) .nil), rfl, rfl⟩)
  · refine s_skip (s_run ?_ (hq := by simp only [room, true_and, and_true]; omega))
    refine p_ret (fin (vs := [.vec 1 4 (0 + j)]) ⟨_, [4], _, _, wk [some 0, some 1, some 2] [4] [.frz 1 j j (rowI .u64 (xs.drop at_))] _ (vals := .cons (.one (.vecf (.head _) rfl (Nat.zero_add j) (Nat.le_refl _) (Nat.le_of_eq (Nat.zero_add j).symm) fun i hi => ?_)) .nil), rfl, rfl⟩)
    show (if i < 0 then _ else rowI .u64 xs (at_ + (i - 0))) = _
    rw [if_neg (by omega), Nat.sub_zero]
    simp only [rowI, List.getD_eq_getElem?_getD, List.getElem?_drop]
theorem last_ok (xs lo : List Int) (n j : Nat) (hn : n ≤ xs.length) (hj : j ≤ n) (hl : xs.length < 17592186044415) (lvl : Int) (kept : Bool) : PCall E [0, 1, 2] 93 [.ptr 0 0, i64 (j : Nat)] (wH xs n lo lvl kept) (fun v hp => v = .frz 1 j j (rowI .u64 (xs.drop (n - j))) ∧ hp = wH xs (n - j) lo lvl kept) := by
  refine p_fnw ?_
  show PTri E false _ _ [.ptr 0 0, i64 (j : Nat), .junk, .junk, .junk] _ _
  unfold wH wCel
  refine s_run ?_
  refine s_reg (g_run 6 ?_)
  refine prg_head (v' := i64 (n - j : Nat)) (by unfold i64; congr 2; omega) ?_
  refine g_end ?_
  refine s_reg (g_run 5 ?_)
  refine g_icall (cloneS_ok xs (n - j) (n - (n - j)) (by omega) hl n lo lvl kept) ?_
  rintro v hp ⟨rfl, rfl⟩
  unfold wH wCel
  refine g_end ?_
  refine s_run ?_
  refine s_run ?_
  have e : n - (n - j) = j := by omega
  rw [e]
  exact p_ret (fin (vs := [.frz 1 j j (rowI .u64 (xs.drop (n - j)))]) ⟨_, [], _, _, wk [some 0, some 1, some 2] [] [.frz 1 j j (rowI .u64 (xs.drop (n - j)))] _, rfl, rfl⟩)
end Go.Proofs.Ytollibkfagjnaaa.Shape.Kit
