import Derived.Test.YtggaimcopbjdiaaTabB
import Derived.Test.YtggaimcopbjdiaaTabD
import Derived.Test.YtggaimcopbjdiaaGraphKitB
set_option linter.unusedVariables false
set_option linter.unusedSimpArgs false
set_option maxRecDepth 10000
namespace Go.Proofs.Ytggaimcopbjdiaa.Graph
open Go.Proofs.Ytggaimcopbjdiaa.AM
def toK (f : Fn) : Kit.Fn := ⟨f.lvl, f.ps, f.rs, f.loc, f.stk, f.code⟩
def lentV (f : Fn) : PV := Kit.lentF (toK f)
theorem lentFnK {f : Fn} (hp : f.ps.length < 17592186044415) (hr : f.rs.length < 17592186044415) (h : f.code.length < 1000000) : PFun E 10 [encF f] (valQ (isV (lentV f))) := Kit.lentFunction_ok (f := toK f) ⟨hp, hr, by show f.code.length < _; omega⟩
theorem keptFnK {f : Fn} (hp : f.ps.length < 17592186044415) (hr : f.rs.length < 17592186044415) (h : f.code.length < 1000000) : PFun E 16 [lentV f, encF f] (valQ (isV (.s (.bool true)))) := Kit.keptFunction_ok (f := toK f) ⟨hp, hr, by show f.code.length < _; omega⟩
theorem lent_enc {f : Fn} : ∀ (F : Nat → Prop) (ρ : PR) (H : AH TV) (w : Value), PRel F ρ H (lentV f) w → PRel F ρ H (encF f) w := by
 refine agg_cast rfl fun j c c' h1 h2 => ?_
 have hU : ∀ xs : List Int, ∀ (F : Nat → Prop) (ρ : PR) (H : AH TV) (w : Value), PRel F ρ H (Kit.lentU xs) w → PRel F ρ H (encU xs) w := fun xs => frz_cast (Nat.le_refl _) (Nat.le_succ _) fun i hi => by
  show [PV.s _] = [PV.s _]
  rw [Kit.getD_pre hi]
 have hC : ∀ xs : List (Int × Int), ∀ (F : Nat → Prop) (ρ : PR) (H : AH TV) (w : Value), PRel F ρ H (Kit.lentC xs) w → PRel F ρ H (encC xs) w := fun xs => frz_cast (Nat.le_refl _) (Nat.le_succ _) fun i hi => by
  show Kit.rowC _ i = Kit.rowC _ i
  unfold Kit.rowC
  rw [Kit.getD_pre hi]
 match j with
 | 0 => cases h1; cases h2; exact fun _ _ _ _ h => h
 | 1 => cases h1; cases h2; exact hU _
 | 2 => cases h1; cases h2; exact hU _
 | 3 => cases h1; cases h2; exact fun _ _ _ _ h => h
 | 4 => cases h1; cases h2; exact fun _ _ _ _ h => h
 | 5 => cases h1; cases h2; exact hC _
 | j + 6 => simp [cellsF] at h2
section
variable {T L : List PV} {O : List Bool} {md : List Nat} {cnt lo l0 : Nat} {hp : PH} {dr : Bool} {p : List Nat} {ops : List AOper} {Q : List PV → PH → Prop} {gd : Option (AM.Src × Bool)}
end
def TabV (hp : PH) (tv : PV) (m : Nat) : Prop := (m = 0 ∧ tv = .s (.slice none 0 0)) ∨ (0 < m ∧ ∃ bk len, tv = .tbv bk m ∧ TabI hp bk m hp.length len (fun _ _ => False))
theorem TabV.app {hp : PH} {tv : PV} {m : Nat} (h : TabV hp tv m) (l : PH) : TabV (hp ++ l) tv m := by
 rcases h with h | ⟨h0, bk, len, h1, cs, h2, h3, h4⟩
 ·exact .inl h
 ·refine .inr ⟨h0, bk, len, h1, cs, ?_, h3, (h4.app l).up (by simp)⟩
  rw [List.getElem?_append_left (List.getElem?_eq_some_iff.1 h2).1]; exact h2
inductive News (hp : PH) : Nat → Nat → List PV → List Nat → Prop
 | nil {lo : Nat} : News hp lo lo [] []
 | cons {lo mid hi n : Nat} {v : PV} {r : Nat → List PV} {vs : List PV} {ns : List Nat} (h : OwnV hp v n r lo mid) (hn : n ≤ 1000000) (h1 : ∀ j, j < n → (r j).length = 1) (hle : lo ≤ mid) (t : News hp mid hi vs ns) : News hp lo hi (v :: vs) (n :: ns)
theorem News.cells {hp : PH} : ∀ {vs : List PV} {ns : List Nat} {lo hi : Nat} {cs : List PV} {len : Nat → Nat}, News hp lo hi vs ns → Cells hp lo cs len (fun _ _ => False) → ∃ len', Cells hp hi (cs ++ vs) len' (fun _ _ => False)
 | _, _, _, _, cs, len, .nil, h => ⟨len, by rw [List.append_nil]; exact h⟩
 | _, _, _, _, cs, len, .cons hv hn h1 hle t, h => by
   obtain ⟨len', h'⟩ := News.cells t (h.snoc hv hn h1 hle)
   rw [List.append_assoc] at h'
   exact ⟨len', h'⟩
theorem News.okc {hp : PH} : ∀ {vs : List PV} {ns : List Nat} {lo hi : Nat}, News hp lo hi vs ns → vs.all okc = true
 | _, _, _, _, .nil => rfl
 | _, _, _, _, .cons hv _ _ _ t => by rw [List.all_cons, hv.cell.2.1, News.okc t]; rfl
theorem TabV.push {hp hp0 : PH} {tv : PV} {m k lo l0 : Nat} {vs : List PV} {ns : List Nat} {T L : List PV} {O : List Bool} {md : List Nat} {cnt : Nat} {dr : Bool} {p : List Nat} {ops : List AOper} {Q : List PV → PH → Prop} {s x : AM.Src} (ht : TabV hp0 tv m) (hap : ∃ l, hp = hp0 ++ l) (hN : News hp hp0.length hp.length vs ns) (hlen : vs.length = k) (hk0 : 0 < k) (hroom : (m + k) * 24 ≤ room) (hs : psev T L s = some tv) (hx : psev T L x = some (.vec 1 hp.length k))
  (hk : ∀ tv' hp' md' cnt', TabV hp' tv' (m + k) → PRg E p dr T ops l0 ⟨tv' :: L, false :: O, hp', md', cnt'⟩ Q) : PRg E p dr T (⟨.append false 1 24 s x, none, lo⟩ :: ops) l0 ⟨L, O, hp ++ [.cel vs], md, cnt⟩ Q := by
 have hb' : (hp ++ [PB.cel vs])[hp.length]? = some (.cel vs) := by rw [List.getElem?_append_right (Nat.le_refl _), Nat.sub_self]; rfl
 rcases ht with ⟨rfl, rfl⟩ | ⟨h0, bk, len, rfl, cs, h2, h3, h4⟩
 ·refine prg_appcel0 hx hb' hlen hk0 (by omega) hs fun md' cnt' => hk _ _ _ _ (.inr ⟨by omega, ?_⟩)
  obtain ⟨len', h'⟩ := News.cells (cs := []) (len := fun _ => 0) hN .nil
  rw [List.nil_append] at h'
  rw [Nat.zero_add]
  refine ⟨_, len', rfl, vs, ?_, hlen, ?_⟩
  ·rw [List.getElem?_append_right (by simp)]; (try simp)
  ·exact ((h'.app _).app _).up (by simp)
 ·obtain ⟨l, rfl⟩ := hap
  have hbl := (List.getElem?_eq_some_iff.1 h2).1
  have h2' : (hp0 ++ l)[bk]? = some (.cel cs) := by rw [List.getElem?_append_left hbl]; exact h2
  have h2'' : (hp0 ++ l ++ [PB.cel vs])[bk]? = some (.cel cs) := by rw [List.getElem?_append_left (by simp; omega)]; exact h2'
  refine prg_appcel hx hb' hlen hk0 hroom hs h2'' h3 fun md' cnt' => hk _ _ _ _ (.inr ⟨by omega, ?_⟩)
  obtain ⟨len', h'⟩ := News.cells hN (h4.app l)
  refine ⟨_, len', rfl, cs ++ vs, ?_, by rw [List.length_append]; omega, ?_⟩
  ·rw [List.getElem?_append_right (by simp)]; (try simp)
  ·have h5 := (h'.app [PB.cel vs]).keep (hp' := (hp0 ++ l ++ [PB.cel vs]).set bk .dead) fun b hb n f full h => by
    have hne : bk ≠ b := fun e => by
     subst e
     rw [h2''] at h; cases h
    rw [List.getElem?_set_ne hne]; exact h
   exact (h5.app _).up (by simp; omega)
end Go.Proofs.Ytggaimcopbjdiaa.Graph
