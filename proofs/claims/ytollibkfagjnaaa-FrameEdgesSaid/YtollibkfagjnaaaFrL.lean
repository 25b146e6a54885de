/- The law on heights. -/
import Derived.Test.YtollibkfagjnaaaFrE
import Derived.Test.YtollibkfagjnaaaShapeKitC
import Derived.Test.YtollibkfagjnaaaShapeKitD
set_option linter.unusedVariables false
set_option linter.unusedSimpArgs false
set_option maxRecDepth 10000
namespace Go.Proofs.Ytollibkfagjnaaa.Shape.Kit
open Go.Proofs.Ytollibkfagjnaaa.AM
theorem triple_eq (t t1 t2 t3 : TypeId) (k1 k2 k3 : IntKind) (fs : Array Field) (hu : Try.prog.underlying t = some (.struct fs)) (f1 f2 f3 : Field) (hfs : fs = #[f1, f2, f3]) (n1 : f1.name ≠ "_") (n2 : f2.name ≠ "_") (n3 : f3.name ≠ "_") (hf1 : f1.type = t1 ∧ f1.offset = 0) (hf2 : f2.type = t2 ∧ f2.offset = 1) (hf3 : f3.type = t3 ∧ f3.offset = 2)
    (hk1 : Try.prog.underlying t1 = some (.int k1)) (hk2 : Try.prog.underlying t2 = some (.int k2)) (hk3 : Try.prog.underlying t3 = some (.int k3)) (h2 : Try.prog.stoodInHeld t = false) (a b c : Int) :
    pureRun Try.prog (Op.equal t (.agg #[.int k1 a, .int k2 b, .int k3 c]) (.agg #[.int k1 a, .int k2 b, .int k3 c])) = some true := by
  have u := pureRun_under _ _ _ hu
  subst hfs
  simp only [Op.equal]
  rw [show Op.maxDepth = 9998 + 1 + 1 from rfl, Op.equalIn]
  simp only [pureRun_bind, pureRun_prog, pureRun_pure, h2, u, Option.bind_some, Bool.false_eq_true, if_false, List.forIn_toArray, List.forIn_cons, List.forIn_nil, hf1.1, hf1.2, hf2.1, hf2.2, hf3.1, hf3.2, ne_eq, n1, n2, n3, not_false_eq_true, if_true, eq_kind _ _ hk1, eq_kind _ _ hk2, eq_kind _ _ hk3, part_int _ _ hk1 #[.int k1 a, .int k2 b, .int k3 c] 0 (.int k1 a) rfl, part_int _ _ hk2 #[.int k1 a, .int k2 b, .int k3 c] 1 (.int k2 b) rfl, part_int _ _ hk3 #[.int k1 a, .int k2 b, .int k3 c] 2 (.int k3 c) rfl, beq_self_eq_true, Bool.not_true]
theorem goS_len {n : Nat} {left : Int} : ∀ {l : List Nat} {hs hs' : List Int}, goS n left l (some hs) = some hs' → hs'.length = hs.length
  | [], hs, hs', h => by cases h; rfl
  | b :: l, hs, hs', h => by
    have h' : goS n left l (go1 n left b hs) = some hs' := h
    cases hx : go1 n left b hs with
    | none => rw [hx, goS_none] at h'; cases h'
    | some h2 =>
      rw [hx] at h'
      rw [goS_len h']
      unfold go1 at hx
      split at hx
      · cases hx; rfl
      · split at hx
        · cases hx; exact List.length_set
        · split at hx
          · cases hx; rfl
          · cases hx
theorem HRun.len {m : Md} {i : Nat} {hs : List Int} {lk : List Bool} {r : HR} (h : HRun m i hs lk r) : ∀ hs', r = .ok hs' → hs'.length = hs.length := by
  induction h with
  | done h => intro hs' e; cases e; rfl
  | chk h he h0 => intro hs' e; cases e
  | edge h he hg => intro hs' e; cases e
  | go h he hg t ih => intro hs' e; rw [ih hs' e, goS_len hg]
theorem HRes.len {m : Md} {f : Int} {l : List Int} {e g a : Int} (h : HRes m f l e g a) : l.length ≤ 2048 := by
  cases h with
  | shape _ _ => exact Nat.zero_le _
  | arg _ _ => exact Nat.zero_le _
  | bad _ _ _ _ => exact Nat.zero_le _
  | ok hk hf hi h =>
    have hs := ok_size hk hi
    rw [h.len _ rfl, (hinv0 (by omega)).len]
    omega
/-- What the law asks of a module. -/
structure MdGood (m : Md) : Prop where
  fits : MdFits m
  gr : OkM m → ∀ i, i < m.fns.length → Gr.Fit (fnAt m i).code
  psl : ∀ g, g ∈ m.fns → g.ps.length ≤ 17592186043904
end Go.Proofs.Ytollibkfagjnaaa.Shape.Kit
