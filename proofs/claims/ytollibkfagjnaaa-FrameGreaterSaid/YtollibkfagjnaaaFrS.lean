/- Queues: lists cut at their heads, and put into order by slices.Insert. Steps with queues; a list that is copied within itself. Parts of a list that has no more room. PUT TOGETHER by merge.py. -/
import Derived.Test.YtollibkfagjnaaaPN
import Derived.Test.YtollibkfagjnaaaAMc
set_option linter.unusedVariables false
set_option linter.unusedSimpArgs false
set_option maxRecDepth 10000
namespace Go.Proofs.Ytollibkfagjnaaa.AM
section
variable {V : Type → Type} [Vec V] {E : Env V} {F F' F0 : Nat → Prop} {ρ ρ' ρ0 : PR} {H H' H0 : AH V} {hp hp' hp0 : PH} {ds ds' : List Nat} {T L : List PV} {Ta La : List Value} {inR : Bool} {p : List Nat} {a b c : ACode} {R : AE → List PV → PH → Prop} {st : PS} {dr : Bool} {ops : List AOper} {l0 : Nat} {Q : List PV → PH → Prop}
def qB (x : Option (List Int)) (l : List Int) : PB := match x with
  | none => .vec 1 l.length (rowI .i64 l) false
  | some pre => .vec 1 (pre ++ l).length (rowI .i64 (pre ++ l)) true
/-- The block of what is to be put in. -/
def eB (c : Int) : PB := .vec 1 1 (fun _ => [.s (.int .i64 c)]) true
end
end Go.Proofs.Ytollibkfagjnaaa.AM

namespace Go.Proofs.Ytollibkfagjnaaa.AM
section
variable {V : Type → Type} [Vec V] {E : Env V} {F F' F0 : Nat → Prop} {ρ ρ' ρ0 : PR} {H H' H0 : AH V} {hp hp' hp0 : PH} {ds ds' : List Nat} {T L : List PV} {Ta La : List Value} {inR : Bool} {p : List Nat} {a b c : ACode} {R : AE → List PV → PH → Prop} {st : PS} {dr : Bool} {ops : List AOper} {l0 : Nat} {Q : List PV → PH → Prop}
end
end Go.Proofs.Ytollibkfagjnaaa.AM

namespace Go.Proofs.Ytollibkfagjnaaa.AM
section
variable {V : Type → Type} [Vec V] {E : Env V} {F F' F0 : Nat → Prop} {ρ ρ' ρ0 : PR} {H H' H0 : AH V} {hp hp' hp0 : PH} {ds ds' : List Nat} {T L : List PV} {Ta La : List Value} {inR : Bool} {p : List Nat} {a b c : ACode} {R : AE → List PV → PH → Prop} {st : PS} {dr : Bool} {ops : List AOper} {l0 : Nat} {Q : List PV → PH → Prop}
end
end Go.Proofs.Ytollibkfagjnaaa.AM

