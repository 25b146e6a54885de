/- Heights, by rounds: the plain law of what is left to do. -/
import Derived.Test.YtollibkfagjnaaaFrV
import Derived.Test.YtollibkfagjnaaaFrGrD
import Derived.Test.YtollibkfagjnaaaShapeKitN
set_option linter.unusedVariables false
set_option linter.unusedSimpArgs false
set_option maxRecDepth 10000
namespace Go.Proofs.Ytollibkfagjnaaa.Shape.Kit
open Go.Proofs.Ytollibkfagjnaaa.AM
def natH (l : List Nat) : List Int := l.map fun a => ((a : Nat) : Int)
theorem natH_len {l : List Nat} : (natH l).length = l.length := List.length_map _
theorem natH_at {l : List Nat} {j : Nat} (h : j < l.length) : (natH l).getD j 0 = ((l.getD j 0 : Nat) : Int) := by
  simp only [natH, List.getD_eq_getElem?_getD, List.getElem?_map, List.getElem?_eq_getElem h, Option.map_some, Option.getD_some]
def dueP (hs : List Int) (lk : List Bool) (a : Nat) : Bool := decide (0 ≤ hs.getD a 0) && !(lk.getD a false)
/-- What is left to do. -/
def tdl (hs : List Int) (lk : List Bool) : List Nat := (List.range hs.length).filter (dueP hs lk)
theorem tdl_sorted (hs : List Int) (lk : List Bool) : (tdl hs lk).Pairwise (· < ·) := List.Pairwise.filter _ List.pairwise_lt_range
theorem tdl_mem {hs : List Int} {lk : List Bool} {a : Nat} : a ∈ tdl hs lk ↔ a < hs.length ∧ 0 ≤ hs.getD a 0 ∧ lk.getD a false = false := by
  simp [tdl, dueP, List.mem_filter]
theorem tdl_le {hs : List Int} {lk : List Bool} : (tdl hs lk).length ≤ hs.length := Nat.le_trans (List.length_filter_le _ _) (by simp)
theorem sorted_natH {l : List Nat} (h : l.Pairwise (· < ·)) : Sorted (natH l) := fun i j hij hj => by
  rw [natH_len] at hj
  rw [natH_at (by omega), natH_at hj]
  have := List.pairwise_iff_getElem.1 h i j (by omega) hj hij
  simp only [List.getD_eq_getElem?_getD, List.getElem?_eq_getElem hj, List.getElem?_eq_getElem (show i < l.length by omega), Option.getD_some]
  omega
theorem getD_set {α : Type} {l : List α} {a b : Nat} {x d : α} : (l.set a x).getD b d = if b = a ∧ a < l.length then x else l.getD b d := by
  simp only [List.getD_eq_getElem?_getD, List.getElem?_set]
  by_cases h : a = b
  · subst h
    by_cases h2 : a < l.length
    · simp [h2]
    · simp [h2]
  · rw [if_neg h, if_neg (fun x => h x.1.symm)]
theorem tdl_pop {hs : List Int} {lk : List Bool} {a : Nat} {r : List Nat} (hl : lk.length = hs.length) (h : tdl hs lk = a :: r) : tdl hs (lk.set a true) = r := by
  have hm : a ∈ tdl hs lk := by rw [h]; exact List.mem_cons_self ..
  obtain ⟨ha, h1, h2⟩ := tdl_mem.1 hm
  have e : tdl hs (lk.set a true) = (tdl hs lk).filter (fun b => b ≠ a) := by
    unfold tdl
    rw [List.filter_filter]
    refine List.filter_congr fun b hb => ?_
    unfold dueP
    rw [getD_set]
    by_cases e : b = a
    · subst e; simp [hl, ha]
    · simp [e]
  rw [e, h]
  have hs' := tdl_sorted hs lk
  rw [h] at hs'
  have hr := (List.pairwise_cons.1 hs').1
  simp only [ne_eq, not_true_eq_false, decide_false, Bool.false_eq_true, not_false_eq_true, List.filter_cons_of_neg]
  exact List.filter_eq_self.2 fun b hb => by have := hr b hb; simp; omega
theorem range_at {n b : Nat} (h : b < n) : List.range n = List.range b ++ b :: List.range' (b + 1) (n - b - 1) := by
  rw [List.range_eq_range', List.range_eq_range']
  have : n = b + (1 + (n - b - 1)) := by omega
  conv => lhs; rw [this]
  rw [← List.range'_append_1, Nat.add_comm 1, List.range'_succ]
  simp
theorem tdl_ins {hs : List Int} {lk : List Bool} {b k : Nat} {left : Int} (hb : b < hs.length) (h1 : hs.getD b 0 < 0) (h2 : lk.getD b false = false) (h3 : 0 ≤ left) (hk : LowB (natH (tdl hs lk)) ((b : Nat) : Int) k) : natH (tdl (hs.set b left) lk) = (natH (tdl hs lk)).take k ++ ((b : Nat) : Int) :: (natH (tdl hs lk)).drop k := by
  obtain ⟨A, hA⟩ : ∃ A, (List.range b).filter (dueP hs lk) = A := ⟨_, rfl⟩
  obtain ⟨B, hB⟩ : ∃ B, (List.range' (b + 1) (hs.length - b - 1)).filter (dueP hs lk) = B := ⟨_, rfl⟩
  have hnb : dueP hs lk b = false := by unfold dueP; rw [decide_eq_false (by omega)]; rfl
  have e1 : tdl hs lk = A ++ B := by
    unfold tdl
    rw [range_at hb, List.filter_append, List.filter_cons_of_neg (by simp [hnb]), hA, hB]
  have hd : ∀ c, c ≠ b → dueP (hs.set b left) lk c = dueP hs lk c := fun c hc => by
    unfold dueP
    rw [getD_set, if_neg (fun x => hc x.1)]
  have e2 : tdl (hs.set b left) lk = A ++ b :: B := by
    unfold tdl
    rw [List.length_set, range_at hb, List.filter_append, List.filter_cons_of_pos, List.filter_congr (q := dueP hs lk) fun c hc => hd c (by have := List.mem_range.1 hc; omega), List.filter_congr (q := dueP hs lk) (l := List.range' _ _) fun c hc => hd c (by have := List.mem_range'_1.1 hc; omega), hA, hB]
    unfold dueP
    rw [getD_set, if_pos ⟨rfl, hb⟩, h2]
    simpa using h3
  have kA : k = A.length := by
    obtain ⟨k1, k2, k3⟩ := hk
    rw [e1] at k1 k2 k3
    rw [natH_len] at k1 k3
    have hlen : (A ++ B).length = A.length + B.length := List.length_append
    rcases Nat.lt_trichotomy k A.length with q | q | q
    · have := k3 k (Nat.le_refl _) (by omega)
      rw [natH_at (by omega), List.getD_eq_getElem?_getD, List.getElem?_append_left q, List.getElem?_eq_getElem q, Option.getD_some] at this
      have hm : ∀ x, x ∈ A → x < b := fun x hx => by rw [← hA] at hx; exact List.mem_range.1 (List.mem_filter.1 hx).1
      have := hm _ (List.getElem_mem q)
      omega
    · exact q
    · have := k2 A.length q
      have hB0 : 0 < B.length := by omega
      rw [natH_at (by omega), List.getD_eq_getElem?_getD, List.getElem?_append_right (Nat.le_refl _), Nat.sub_self, List.getElem?_eq_getElem hB0, Option.getD_some] at this
      have hm : ∀ x, x ∈ B → b < x := fun x hx => by rw [← hB] at hx; exact (List.mem_range'_1.1 (List.mem_filter.1 hx).1).1
      have := hm _ (List.getElem_mem hB0)
      omega
  rw [e1, e2, kA]
  unfold natH
  rw [List.map_append, List.map_append, List.map_cons, List.take_left' (by simp), List.drop_left' (by simp)]
/-! ### One address's successors -/
def go1 (n : Nat) (left : Int) (b : Nat) (hs : List Int) : Option (List Int) := if b = n then some hs else if hs.getD b 0 < 0 then some (hs.set b left) else if hs.getD b 0 = left then some hs else none
def goS (n : Nat) (left : Int) (l : List Nat) (o : Option (List Int)) : Option (List Int) := l.foldl (fun o b => o.bind (go1 n left b)) o
theorem goS_snoc {n : Nat} {left : Int} {l : List Nat} {b : Nat} {o : Option (List Int)} : goS n left (l ++ [b]) o = (goS n left l o).bind (go1 n left b) := by simp [goS]
theorem goS_none {n : Nat} {left : Int} : ∀ {l : List Nat}, goS n left l none = none
  | [] => rfl
  | b :: l => goS_none (l := l)
theorem goS_bad {n : Nat} {left : Int} {l : List Nat} {k : Nat} {o : Option (List Int)} (h : goS n left (l.take k) o = none) : goS n left l o = none := by
  conv => lhs; rw [← List.take_append_drop k l]
  unfold goS at h ⊢
  rw [List.foldl_append, h]
  exact goS_none
section
variable (m : Md) (i : Nat)
def opH (a : Nat) : Int := ((fnAt m i).code.getD a (0, 0)).1
def effH (a : Nat) : Int × Int := effS m i ((fnAt m i).code.getD a (0, 0)).1 ((fnAt m i).code.getD a (0, 0)).2
def leftH (h : Int) (a : Nat) : Int := h - (effH m i a).1 + (effH m i a).2
def chkH (h : Int) (a : Nat) : Int := if h < (effH m i a).1 then 172 else if leftH m i h a > (fnAt m i).stk then 171 else if opH m i a = 46 ∧ h ≠ (effH m i a).1 then 170 else 0
def nxH (a : Nat) : List Nat := (Gr.nextL (fnAt m i).code a).map Int.toNat
inductive HR
  | ok (hs : List Int)
  | bad (e : Int) (a : Nat)
inductive HRun : List Int → List Bool → HR → Prop
  | done {hs : List Int} {lk : List Bool} (h : tdl hs lk = []) : HRun hs lk (.ok hs)
  | chk {hs : List Int} {lk : List Bool} {a : Nat} {r : List Nat} {e : Int} (h : tdl hs lk = a :: r) (he : chkH m i (hs.getD a 0) a = e) (h0 : e ≠ 0) : HRun hs lk (.bad e a)
  | edge {hs : List Int} {lk : List Bool} {a : Nat} {r : List Nat} (h : tdl hs lk = a :: r) (he : chkH m i (hs.getD a 0) a = 0) (hg : goS (fnAt m i).code.length (leftH m i (hs.getD a 0) a) (nxH m i a) (some hs) = none) : HRun hs lk (.bad 170 a)
  | go {hs hs' : List Int} {lk : List Bool} {a : Nat} {r : List Nat} {x : HR} (h : tdl hs lk = a :: r) (he : chkH m i (hs.getD a 0) a = 0) (hg : goS (fnAt m i).code.length (leftH m i (hs.getD a 0) a) (nxH m i a) (some hs) = some hs') (t : HRun hs' (lk.set a true) x) : HRun hs lk x
end
theorem HRun.one {m : Md} {i : Nat} {hs : List Int} {lk : List Bool} {x y : HR} (h : HRun m i hs lk x) (h' : HRun m i hs lk y) : x = y := by
  induction h with
  | done h =>
    cases h' with
    | done _ => rfl
    | chk g _ _ => rw [h] at g; cases g
    | edge g _ _ => rw [h] at g; cases g
    | go g _ _ _ => rw [h] at g; cases g
  | chk h he h0 =>
    cases h' with
    | done g => rw [h] at g; cases g
    | chk g ge _ => rw [h] at g; cases g; rw [he] at ge; cases ge; rfl
    | edge g ge _ => rw [h] at g; cases g; exact absurd (he.symm.trans ge) h0
    | go g ge _ _ => rw [h] at g; cases g; exact absurd (he.symm.trans ge) h0
  | edge h he hg =>
    cases h' with
    | done g => rw [h] at g; cases g
    | chk g ge g0 => rw [h] at g; cases g; exact absurd (ge.symm.trans he) g0
    | edge g ge _ => rw [h] at g; cases g; rfl
    | go g ge gg _ => rw [h] at g; cases g; rw [hg] at gg; cases gg
  | go h he hg t ih =>
    cases h' with
    | done g => rw [h] at g; cases g
    | chk g ge g0 => rw [h] at g; cases g; exact absurd (ge.symm.trans he) g0
    | edge g ge gg => rw [h] at g; cases g; rw [hg] at gg; cases gg
    | go g ge gg t' => rw [h] at g; cases g; rw [hg] at gg; cases gg; exact ih t'
/-- What holds between the rounds. -/
structure HInv (n : Nat) (hs : List Int) (lk : List Bool) : Prop where
  len : hs.length = n
  lkl : lk.length = n
  lo : ∀ b, -1 ≤ hs.getD b 0
  hi : ∀ b, hs.getD b 0 ≤ 64
  lk : ∀ b, lk.getD b false = true → 0 ≤ hs.getD b 0
theorem go1_inv {n b : Nat} {left : Int} {hs hs' : List Int} {lk : List Bool} (h : HInv n hs lk) (h0 : 0 ≤ left) (h1 : left ≤ 64) (hg : go1 n left b hs = some hs') : HInv n hs' lk ∧ ∀ c, 0 ≤ hs.getD c 0 → hs'.getD c 0 = hs.getD c 0 := by
  unfold go1 at hg
  split at hg
  · cases hg; exact ⟨h, fun _ _ => rfl⟩
  · split at hg
    · next hb =>
      cases hg
      have key : ∀ c, 0 ≤ hs.getD c 0 → (hs.set b left).getD c 0 = hs.getD c 0 := fun c hc => by
        rw [getD_set, if_neg (fun x => by rw [x.1] at hc; omega)]
      refine ⟨⟨by rw [List.length_set]; exact h.len, h.lkl, fun c => ?_, fun c => ?_, fun c hc => ?_⟩, key⟩
      · rw [getD_set]; split
        · omega
        · exact h.lo c
      · rw [getD_set]; split
        · omega
        · exact h.hi c
      · rw [key c (h.lk c hc)]; exact h.lk c hc
    · split at hg
      · cases hg; exact ⟨h, fun _ _ => rfl⟩
      · cases hg
theorem goS_inv {n : Nat} {left : Int} {lk : List Bool} (h0 : 0 ≤ left) (h1 : left ≤ 64) : ∀ {l : List Nat} {hs hs' : List Int}, HInv n hs lk → goS n left l (some hs) = some hs' → HInv n hs' lk ∧ ∀ c, 0 ≤ hs.getD c 0 → hs'.getD c 0 = hs.getD c 0
  | [], hs, hs', h, hg => by cases hg; exact ⟨h, fun _ _ => rfl⟩
  | b :: l, hs, hs', h, hg => by
    have hg' : goS n left l (go1 n left b hs) = some hs' := hg
    cases hx : go1 n left b hs with
    | none => rw [hx, goS_none] at hg'; cases hg'
    | some h2 =>
      rw [hx] at hg'
      obtain ⟨i1, k1⟩ := go1_inv h h0 h1 hx
      obtain ⟨i2, k2⟩ := goS_inv h0 h1 i1 hg'
      exact ⟨i2, fun c hc => by rw [k2 c (by rw [k1 c hc]; exact hc), k1 c hc]⟩
theorem HInv.look {n a : Nat} {hs : List Int} {lk : List Bool} (h : HInv n hs lk) (ha : 0 ≤ hs.getD a 0) : HInv n hs (lk.set a true) := ⟨h.len, by rw [List.length_set]; exact h.lkl, h.lo, h.hi, fun b hb => by
  rw [getD_set] at hb
  split at hb
  · next e => rw [e.1]; exact ha
  · exact h.lk b hb⟩
/-- How many are not looked at. -/
def unl (lk : List Bool) : Nat := (lk.filter (!·)).length
theorem unl_set : ∀ {lk : List Bool} {a : Nat}, a < lk.length → lk.getD a false = false → unl (lk.set a true) < unl lk
  | [], a, h, _ => by simp at h
  | b :: lk, 0, _, h => by
    have : b = false := by simpa using h
    subst this
    simp [unl]
  | b :: lk, a + 1, h, hf => by
    have := unl_set (lk := lk) (a := a) (by simpa using h) (by simpa using hf)
    cases b <;> simp [unl] at this ⊢ <;> omega
end Go.Proofs.Ytollibkfagjnaaa.Shape.Kit
