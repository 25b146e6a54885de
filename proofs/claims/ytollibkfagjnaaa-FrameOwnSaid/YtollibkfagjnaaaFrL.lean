/- The law on heights. -/
import Derived.Test.YtollibkfagjnaaaFrE
import Derived.Test.YtollibkfagjnaaaShapeKitC
import Derived.Test.YtollibkfagjnaaaShapeKitD
set_option linter.unusedVariables false
set_option linter.unusedSimpArgs false
set_option maxRecDepth 10000
namespace Go.Proofs.Ytollibkfagjnaaa.Shape.Kit
open Go.Proofs.Ytollibkfagjnaaa.AM
theorem goS_len {n : Nat} {left : Int} : ∀ {l : List Nat} {hs hs' : List Int}, goS n left l (some hs) = some hs' → hs'.length = hs.length
  | [], hs, hs', h => by cases h; rfl
  | b :: l, hs, hs', h => by
    have h' : goS n left l (go1 n left b hs) = some hs' := h
    cases hx : go1 n left b hs with
    | none => rw [hx, goS_none] at h'; cases h'
    | some h2 =>
      rw [hx] at h'
      rw [goS_len h']
      unfold go1 at hx
      split at hx
      · cases hx; rfl
      · split at hx
        · cases hx; exact List.length_set
        · split at hx
          · cases hx; rfl
          · cases hx
theorem HRun.len {m : Md} {i : Nat} {hs : List Int} {lk : List Bool} {r : HR} (h : HRun m i hs lk r) : ∀ hs', r = .ok hs' → hs'.length = hs.length := by
  induction h with
  | done h => intro hs' e; cases e; rfl
  | chk h he h0 => intro hs' e; cases e
  | edge h he hg => intro hs' e; cases e
  | go h he hg t ih => intro hs' e; rw [ih hs' e, goS_len hg]
theorem HRes.len {m : Md} {f : Int} {l : List Int} {e g a : Int} (h : HRes m f l e g a) : l.length ≤ 2048 := by
  cases h with
  | shape _ _ => exact Nat.zero_le _
  | arg _ _ => exact Nat.zero_le _
  | bad _ _ _ _ => exact Nat.zero_le _
  | ok hk hf hi h =>
    have hs := ok_size hk hi
    rw [h.len _ rfl, (hinv0 (by omega)).len]
    omega
/-- What the law asks of a module. -/
structure MdGood (m : Md) : Prop where
  fits : MdFits m
  gr : OkM m → ∀ i, i < m.fns.length → Gr.Fit (fnAt m i).code
  psl : ∀ g, g ∈ m.fns → g.ps.length ≤ 17592186043904
end Go.Proofs.Ytollibkfagjnaaa.Shape.Kit
