/- A region that draws its order: the order that was compiled, step by step. -/
import Derived.Test.YtdbehmepikhghaaAM14
set_option linter.unusedVariables false
set_option linter.unusedSimpArgs false
namespace Go.Proofs.Ytdbehmepikhghaa.AM
/-- Where the evaluator stands in the order that was compiled. -/
structure CS (V : Type → Type) where
  m : OEnv
  L : List Value
  H : AH V
  G : List (AH V)
  y : Org
  v : Value
section
variable {P : Program} {V : Type → Type} [Vec V] {share : Bool} {ops : Array Oper} {call : Value → List Value → AH V → Option (Value × AH V)} {T : AT}

/-- Is it done? -/
inductive Goes (ops : Array Oper) (T : AT) (o : Oper) (s : CS V) (b : Bool) : Prop
  | free (hg : o.guard = none) (hb : b = true)
  | ask {j d : Nat} {want : Bool} {src : Src} (hg : o.guard = some (j, want)) (hj : (ops[j]?).bind (·.dst) = some d) (hs : srcIn ops o s.m s.L.length (.tmp d) = some src) (hw : awanted T s.L (some (src, want)) = b)
inductive CStep (P : Program) (share : Bool) (ops : Array Oper) (call : Value → List Value → AH V → Option (Value × AH V)) (T : AT) (o : Oper) (lo : Nat) (s s' : CS V) : Prop
  | other {x : Operand} (hg : o.guard = none) (hc : compileOp P share o = .mov x) (hy : orgIn ops o s.m x = some s'.y) (hv : oval T s.L s'.y = some s'.v) (hm : s'.m = setOrg s.m o.dst s'.y) (hL : s'.L = s.L) (hH : s'.H = s.H) (hG : s'.G = s.G)
  | skip {op' : AOp Src} (hop : (compileOp P share o).mapM (srcIn ops o s.m s.L.length) = some op') (hw : Goes ops T o s false) (hv : s'.v = undef) (hy : s'.y = .val s.L.length) (hm : s'.m = setOrg s.m o.dst s'.y) (hL : s'.L = undef :: s.L) (hH : s'.H = s.H)
      (hG : s'.G = bif isEff op' then s.H :: s.G else s.G)
  | exec {op' : AOp Src} (hop : (compileOp P share o).mapM (srcIn ops o s.m s.L.length) = some op') (hw : Goes ops T o s true) (hx : aexec P call op' (sev T s.L) s.H = some (s'.v, s'.H)) (hy : s'.y = .val s.L.length) (hm : s'.m = setOrg s.m o.dst s'.y) (hL : s'.L = s'.v :: s.L)
      (hl : loadOk T s.L s.G lo op' s'.v = true) (hsz : Vec.size s.H ≤ Vec.size s'.H) (hG : s'.G = bif isEff op' then s'.H :: s.G else s.G)

def Def (m : OEnv) (T L : List Value) : Prop := ∀ t x, m.find t = some x → ∃ v, oval T L x = some v
theorem Def.org {m : OEnv} {L : List Value} {o : Oper} (h : Def m T L) {x : Operand} {y : Org} (hx : orgIn ops o m x = some y) : ∃ v, oval T L y = some v := by
  have hx := orgIn_some hx
  cases x with
  | tmp t => exact h t y hx
  | const c =>
    simp only [orgOf] at hx
    split at hx
    · injection hx with hx; subst hx; exact ⟨c, rfl⟩
    · cases hx
  | global g => cases hx
  | func f => injection hx with hx; subst hx; exact ⟨_, rfl⟩
theorem Def.set {m : OEnv} {L L' : List Value} {y : Org} {v : Value} (h : Def m T L) (hL : ∀ x u, oval T L x = some u → oval T L' x = some u) (hy : oval T L' y = some v) (d : Option Nat) : Def (setOrg m d y) T L' := by
  intro t x hx
  rw [find_setOrg] at hx
  split at hx
  · injection hx with hx; subst hx; exact ⟨v, hy⟩
  · obtain ⟨u, hu⟩ := h t x hx
    exact ⟨u, hL _ _ hu⟩

def shift (s0 : CS V) (S : Nat → CS V) : Nat → CS V
  | 0 => s0
  | i + 1 => S i
theorem trace : ∀ {ol : List (Oper × Nat)} {m m' : OEnv} {k' : Nat} {al : List AOper} {L L' : List Value} {G : List (AH V)} {H H' : AH V} (y : Org) (v : Value),
    someOps P share ops ol m L.length = some (al, m', k') → adraw P call T al G L H = some (L', H') → Def m T L →
    ∃ S : Nat → CS V, S 0 = ⟨m, L, H, G, y, v⟩ ∧ (∀ i o lo, ol[i]? = some (o, lo) → CStep P share ops call T o lo (S i) (S (i + 1)) ∧ Def (S (i + 1)).m T (S (i + 1)).L ∧ oval T (S (i + 1)).L (S (i + 1)).y = some (S (i + 1)).v) ∧
      (S ol.length).m = m' ∧ (S ol.length).L = L' ∧ (S ol.length).H = H' ∧ k' = L'.length
  | [], m, m', k', al, L, L', G, H, H', y, v, hs, ha, hd => by
    simp only [someOps, Option.some.injEq, Prod.mk.injEq] at hs
    obtain ⟨rfl, rfl, rfl⟩ := hs
    simp only [adraw, Option.some.injEq, Prod.mk.injEq] at ha
    obtain ⟨rfl, rfl⟩ := ha
    exact ⟨fun _ => ⟨m, L, H, G, y, v⟩, rfl, fun i o lo h => by simp at h, rfl, rfl, rfl, rfl⟩
  | (o, lo) :: ol, m, m', k', al, L, L', G, H, H', y, v, hs, ha, hd => by
    -- the rest, behind a step
    have go : ∀ (s1 : CS V) {al1 : List AOper}, CStep P share ops call T o lo ⟨m, L, H, G, y, v⟩ s1 → Def s1.m T s1.L → oval T s1.L s1.y = some s1.v → someOps P share ops ol s1.m s1.L.length = some (al1, m', k') → adraw P call T al1 s1.G s1.L s1.H = some (L', H') →
        ∃ S : Nat → CS V, S 0 = ⟨m, L, H, G, y, v⟩ ∧ (∀ i o' lo', ((o, lo) :: ol)[i]? = some (o', lo') → CStep P share ops call T o' lo' (S i) (S (i + 1)) ∧ Def (S (i + 1)).m T (S (i + 1)).L ∧ oval T (S (i + 1)).L (S (i + 1)).y = some (S (i + 1)).v) ∧
          (S ((o, lo) :: ol).length).m = m' ∧ (S ((o, lo) :: ol).length).L = L' ∧ (S ((o, lo) :: ol).length).H = H' ∧ k' = L'.length := by
      intro s1 al1 hst hd1 hv1 hs1 ha1
      obtain ⟨S, h0, h1, h2⟩ := trace s1.y s1.v hs1 ha1 hd1
      refine ⟨shift ⟨m, L, H, G, y, v⟩ S, rfl, fun i o' lo' hi => ?_, h2⟩
      cases i with
      | zero =>
        simp only [List.getElem?_cons_zero, Option.some.injEq, Prod.mk.injEq] at hi
        obtain ⟨rfl, rfl⟩ := hi
        show CStep P share ops call T o lo ⟨m, L, H, G, y, v⟩ (S 0) ∧ _
        have e0 : S 0 = s1 := h0
        simp only [shift]
        rw [e0]
        exact ⟨hst, hd1, hv1⟩
      | succ i => exact h1 i o' lo' (by simpa using hi)
    simp only [someOps] at hs
    split at hs
    · rename_i y1 hone
      unfold oneOp at hone
      split at hone
      · rename_i x hg hc
        cases hy : orgIn ops o m x with
        | none => rw [hy] at hone; cases hone
        | some y' =>
          rw [hy] at hone
          simp only [Option.map_some, Option.some.injEq, Prod.mk.injEq, true_and] at hone
          subst hone
          obtain ⟨u, hu⟩ := hd.org hy
          exact go ⟨setOrg m o.dst y', L, H, G, y', u⟩ (.other hg hc hy hu rfl rfl rfl rfl) (hd.set (fun _ _ h => h) hu _) hu hs ha
      · split at hone
        · simp at hone
        · exfalso; revert hone; cases srcIn ops o m L.length (.tmp _) <;> simp
        · cases hone
    · rename_i ao y1 hone
      split at hs
      · rename_i al' m1 k1 hs'
        simp only [Option.some.injEq, Prod.mk.injEq] at hs
        obtain ⟨rfl, rfl, rfl⟩ := hs
        have key : ∃ op', ao.op = op' ∧ ao.lo = lo ∧ (compileOp P share o).mapM (srcIn ops o m L.length) = some op' ∧ y1 = .val L.length ∧ ∀ b, awanted T L ao.g = b → Goes ops T o (⟨m, L, H, G, y, v⟩ : CS V) b := by
          unfold oneOp at hone
          split at hone
          · rename_i x hg hc
            revert hone
            cases orgIn ops o m x <;> simp
          · split at hone
            · rename_i op' hop hg
              simp only [Option.some.injEq, Prod.mk.injEq] at hone
              obtain ⟨h1, h2⟩ := hone
              subst h1
              exact ⟨op', rfl, rfl, hop, h2.symm, fun b hb => .free (guardOf_none hg) hb.symm⟩
            · rename_i op' d want hop hg
              cases hsrc : srcIn ops o m L.length (.tmp d) with
              | none => rw [hsrc] at hone; cases hone
              | some s =>
                rw [hsrc] at hone
                simp only [Option.map_some, Option.some.injEq, Prod.mk.injEq] at hone
                obtain ⟨h1, h2⟩ := hone
                subst h1
                obtain ⟨j, hg1, hg2⟩ := guardOf_some hg
                exact ⟨op', rfl, rfl, hop, h2.symm, fun b hb => .ask hg1 hg2 hsrc hb⟩
            · cases hone
        obtain ⟨op', rfl, rfl, hop, rfl, hwant⟩ := key
        simp only [adraw] at ha
        split at ha
        · rename_i hw
          split at ha
          · rename_i u H1 hx
            split at ha
            · rename_i hl
              have hl2 : loadOk T L G ao.lo ao.op u = true ∧ Vec.size H ≤ Vec.size H1 := by
                cases hq : loadOk T L G ao.lo ao.op u with
                | false => rw [hq] at hl; cases hl
                | true => rw [hq] at hl; exact ⟨rfl, by simpa using hl⟩
              exact go ⟨setOrg m o.dst (.val L.length), u :: L, H1, bif isEff ao.op then H1 :: G else G, .val L.length, u⟩ (.exec hop (hwant true hw) hx rfl rfl rfl hl2.1 hl2.2 rfl) (hd.set (fun _ _ h => oval_cons u h) (oval_last T L u) _) (oval_last T L u) hs' ha
            · cases ha
          · cases ha
        · rename_i hw
          exact go ⟨setOrg m o.dst (.val L.length), undef :: L, H, bif isEff ao.op then H :: G else G, .val L.length, undef⟩ (.skip hop (hwant false hw) rfl rfl rfl rfl rfl rfl) (hd.set (fun _ _ h => oval_cons undef h) (oval_last T L undef) _) (oval_last T L undef) hs' ha
      · cases hs
    · cases hs
end
end Go.Proofs.Ytdbehmepikhghaa.AM
