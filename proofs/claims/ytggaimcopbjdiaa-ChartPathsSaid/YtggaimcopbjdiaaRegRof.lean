import Derived.Test.YtggaimcopbjdiaaRegRef
set_option linter.unusedVariables false
set_option linter.unusedSimpArgs false
set_option maxRecDepth 10000
namespace Go.Proofs.Ytggaimcopbjdiaa.Graph
open Go.Proofs.Ytggaimcopbjdiaa.AM Go.Proofs.Ytggaimcopbjdiaa.Post
theorem nat_at {S : List Nat} {k s : Nat} (h : S[k]? = some s) : PV.s (.int .i64 ((natI S).getD k 0)) = i64 (s : Nat) := by
 show _ = PV.s (.int .i64 _)
 congr 2
 show (S.map Int.ofNat).getD k 0 = _
 rw [List.getD_eq_getElem?_getD, List.getElem?_map, h]
 rfl
theorem inB_succ {code : List (Int × Int)} {b e i a l : Nat} (h : (nxN code b)[i]? = some l) : inB code b e (i + 1) a = (inB code b e i a || (withoutL code (l : Nat) (e : Nat)).getD a false) := by
 unfold inB
 rw [take_snoc h, List.any_append]
 simp
noncomputable def inR (code : List (Int × Int)) (b e i : Nat) : Nat → List PV := fun a => [.s (.bool (inB code b e i a))]
end Go.Proofs.Ytggaimcopbjdiaa.Graph
