/- Heights, by rounds: the plain law of what is left to do. -/
import Derived.Test.YtollibkfagjnaaaFrV
import Derived.Test.YtollibkfagjnaaaFrGrD
import Derived.Test.YtollibkfagjnaaaShapeKitN
set_option linter.unusedVariables false
set_option linter.unusedSimpArgs false
set_option maxRecDepth 10000
namespace Go.Proofs.Ytollibkfagjnaaa.Shape.Kit
open Go.Proofs.Ytollibkfagjnaaa.AM
def natH (l : List Nat) : List Int := l.map fun a => ((a : Nat) : Int)
def dueP (hs : List Int) (lk : List Bool) (a : Nat) : Bool := decide (0 ≤ hs.getD a 0) && !(lk.getD a false)
/-- What is left to do. -/
def tdl (hs : List Int) (lk : List Bool) : List Nat := (List.range hs.length).filter (dueP hs lk)
theorem tdl_mem {hs : List Int} {lk : List Bool} {a : Nat} : a ∈ tdl hs lk ↔ a < hs.length ∧ 0 ≤ hs.getD a 0 ∧ lk.getD a false = false := by
  simp [tdl, dueP, List.mem_filter]
theorem getD_set {α : Type} {l : List α} {a b : Nat} {x d : α} : (l.set a x).getD b d = if b = a ∧ a < l.length then x else l.getD b d := by
  simp only [List.getD_eq_getElem?_getD, List.getElem?_set]
  by_cases h : a = b
  · subst h
    by_cases h2 : a < l.length
    · simp [h2]
    · simp [h2]
  · rw [if_neg h, if_neg (fun x => h x.1.symm)]
/-! ### One address's successors -/
def go1 (n : Nat) (left : Int) (b : Nat) (hs : List Int) : Option (List Int) := if b = n then some hs else if hs.getD b 0 < 0 then some (hs.set b left) else if hs.getD b 0 = left then some hs else none
def goS (n : Nat) (left : Int) (l : List Nat) (o : Option (List Int)) : Option (List Int) := l.foldl (fun o b => o.bind (go1 n left b)) o
theorem goS_none {n : Nat} {left : Int} : ∀ {l : List Nat}, goS n left l none = none
  | [] => rfl
  | b :: l => goS_none (l := l)
section
variable (m : Md) (i : Nat)
def opH (a : Nat) : Int := ((fnAt m i).code.getD a (0, 0)).1
def effH (a : Nat) : Int × Int := effS m i ((fnAt m i).code.getD a (0, 0)).1 ((fnAt m i).code.getD a (0, 0)).2
def leftH (h : Int) (a : Nat) : Int := h - (effH m i a).1 + (effH m i a).2
def chkH (h : Int) (a : Nat) : Int := if h < (effH m i a).1 then 172 else if leftH m i h a > (fnAt m i).stk then 171 else if opH m i a = 46 ∧ h ≠ (effH m i a).1 then 170 else 0
def nxH (a : Nat) : List Nat := (Gr.nextL (fnAt m i).code a).map Int.toNat
inductive HR
  | ok (hs : List Int)
  | bad (e : Int) (a : Nat)
inductive HRun : List Int → List Bool → HR → Prop
  | done {hs : List Int} {lk : List Bool} (h : tdl hs lk = []) : HRun hs lk (.ok hs)
  | chk {hs : List Int} {lk : List Bool} {a : Nat} {r : List Nat} {e : Int} (h : tdl hs lk = a :: r) (he : chkH m i (hs.getD a 0) a = e) (h0 : e ≠ 0) : HRun hs lk (.bad e a)
  | edge {hs : List Int} {lk : List Bool} {a : Nat} {r : List Nat} (h : tdl hs lk = a :: r) (he : chkH m i (hs.getD a 0) a = 0) (hg : goS (fnAt m i).code.length (leftH m i (hs.getD a 0) a) (nxH m i a) (some hs) = none) : HRun hs lk (.bad 170 a)
  | go {hs hs' : List Int} {lk : List Bool} {a : Nat} {r : List Nat} {x : HR} (h : tdl hs lk = a :: r) (he : chkH m i (hs.getD a 0) a = 0) (hg : goS (fnAt m i).code.length (leftH m i (hs.getD a 0) a) (nxH m i a) (some hs) = some hs') (t : HRun hs' (lk.set a true) x) : HRun hs lk x
end
theorem HRun.one {m : Md} {i : Nat} {hs : List Int} {lk : List Bool} {x y : HR} (h : HRun m i hs lk x) (h' : HRun m i hs lk y) : x = y := by
  induction h with
  | done h =>
    cases h' with
    | done _ => rfl
    | chk g _ _ => rw [h] at g; cases g
    | edge g _ _ => rw [h] at g; cases g
    | go g _ _ _ => rw [h] at g; cases g
  | chk h he h0 =>
    cases h' with
    | done g => rw [h] at g; cases g
    | chk g ge _ => rw [h] at g; cases g; rw [he] at ge; cases ge; rfl
    | edge g ge _ => rw [h] at g; cases g; exact absurd (he.symm.trans ge) h0
    | go g ge _ _ => rw [h] at g; cases g; exact absurd (he.symm.trans ge) h0
  | edge h he hg =>
    cases h' with
    | done g => rw [h] at g; cases g
    | chk g ge g0 => rw [h] at g; cases g; exact absurd (ge.symm.trans he) g0
    | edge g ge _ => rw [h] at g; cases g; rfl
    | go g ge gg _ => rw [h] at g; cases g; rw [hg] at gg; cases gg
  | go h he hg t ih =>
    cases h' with
    | done g => rw [h] at g; cases g
    | chk g ge g0 => rw [h] at g; cases g; exact absurd (ge.symm.trans he) g0
    | edge g ge gg => rw [h] at g; cases g; rw [hg] at gg; cases gg
    | go g ge gg t' => rw [h] at g; cases g; rw [hg] at gg; cases gg; exact ih t'
/-- What holds between the rounds. -/
structure HInv (n : Nat) (hs : List Int) (lk : List Bool) : Prop where
  len : hs.length = n
  lkl : lk.length = n
  lo : ∀ b, -1 ≤ hs.getD b 0
  hi : ∀ b, hs.getD b 0 ≤ 64
  lk : ∀ b, lk.getD b false = true → 0 ≤ hs.getD b 0
theorem go1_inv {n b : Nat} {left : Int} {hs hs' : List Int} {lk : List Bool} (h : HInv n hs lk) (h0 : 0 ≤ left) (h1 : left ≤ 64) (hg : go1 n left b hs = some hs') : HInv n hs' lk ∧ ∀ c, 0 ≤ hs.getD c 0 → hs'.getD c 0 = hs.getD c 0 := by
  unfold go1 at hg
  split at hg
  · cases hg; exact ⟨h, fun _ _ => rfl⟩
  · split at hg
    · next hb =>
      cases hg
      have key : ∀ c, 0 ≤ hs.getD c 0 → (hs.set b left).getD c 0 = hs.getD c 0 := fun c hc => by
        rw [getD_set, if_neg (fun x => by rw [x.1] at hc; omega)]
      refine ⟨⟨by rw [List.length_set]; exact h.len, h.lkl, fun c => ?_, fun c => ?_, fun c hc => ?_⟩, key⟩
      · rw [getD_set]; split
        · omega
        · exact h.lo c
      · rw [getD_set]; split
        · omega
        · exact h.hi c
      · rw [key c (h.lk c hc)]; exact h.lk c hc
    · split at hg
      · cases hg; exact ⟨h, fun _ _ => rfl⟩
      · cases hg
theorem goS_inv {n : Nat} {left : Int} {lk : List Bool} (h0 : 0 ≤ left) (h1 : left ≤ 64) : ∀ {l : List Nat} {hs hs' : List Int}, HInv n hs lk → goS n left l (some hs) = some hs' → HInv n hs' lk ∧ ∀ c, 0 ≤ hs.getD c 0 → hs'.getD c 0 = hs.getD c 0
  | [], hs, hs', h, hg => by cases hg; exact ⟨h, fun _ _ => rfl⟩
  | b :: l, hs, hs', h, hg => by
    have hg' : goS n left l (go1 n left b hs) = some hs' := hg
    cases hx : go1 n left b hs with
    | none => rw [hx, goS_none] at hg'; cases hg'
    | some h2 =>
      rw [hx] at hg'
      obtain ⟨i1, k1⟩ := go1_inv h h0 h1 hx
      obtain ⟨i2, k2⟩ := goS_inv h0 h1 i1 hg'
      exact ⟨i2, fun c hc => by rw [k2 c (by rw [k1 c hc]; exact hc), k1 c hc]⟩
theorem HInv.look {n a : Nat} {hs : List Int} {lk : List Bool} (h : HInv n hs lk) (ha : 0 ≤ hs.getD a 0) : HInv n hs (lk.set a true) := ⟨h.len, by rw [List.length_set]; exact h.lkl, h.lo, h.hi, fun b hb => by
  rw [getD_set] at hb
  split at hb
  · next e => rw [e.1]; exact ha
  · exact h.lk b hb⟩
end Go.Proofs.Ytollibkfagjnaaa.Shape.Kit
