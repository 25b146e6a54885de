import Derived.Test.YtggaimcopbjdiaaPostTr
import Derived.Test.YtggaimcopbjdiaaPostMk
set_option linter.unusedVariables false
set_option linter.unusedSimpArgs false
set_option maxRecDepth 10000
namespace Go.Proofs.Ytggaimcopbjdiaa.Graph
open Go.Proofs.Ytggaimcopbjdiaa.AM Go.Proofs.Ytggaimcopbjdiaa.Post
noncomputable def scB : ACode := match ChartAwake.c58.body with
 | .seq _ (.scope b) => b
 | _ => .skip
noncomputable def c33r : ACode := match afind scB 0 with
 | some (.seq _ r) => r
 | _ => .skip
theorem c33r_ok : afind scB 0 = some (.seq .skip c33r) := rfl
def nextP (code : List (Int × Int)) : PV := .frz 1 (code.length + 1) (code.length + 1) fun i => [encI (nextI code (i : Nat))]
def tH (code : List (Int × Int)) (pls ne : List Int) : PH := [.cel [nextP code], .cel [.vec 1 3 (code.length + 1)], .cel [.exv 1 4 (code.length + 1)], .vec 1 (code.length + 1) (rowI .i64 pls) true, .vec 1 (code.length + 1) (rowI .i64 ne) true]
def tA (n : Nat) (l : List Nat) (x15 x16 x17 x29 x30 x31 x33 x34 x35 : PV) : List PV := [.junk, .junk, .junk, i64 (n : Nat), .junk, .ptr 0 0, .junk, .junk, .frz 1 l.length l.length (rowI .i64 (natI l)), .ptr 1 0, .ptr 2 0, .junk, .junk, .junk, .fn 66 [] [.ptr 1 0, .ptr 2 0], x15, x16, x17, .junk, .junk, .junk, .junk, .junk, .junk, .junk, .junk, .junk, .junk, .junk, x29, x30, x31, .junk, x33, x34, x35, .junk, .junk, .junk, .junk, .junk]
structure TI (code : List (Int × Int)) (l : List Nat) (pls ne : List Int) (nr : Nat → Option Nat) : Prop where
 rd : Rd (x := code.length) (nx := nxN code) (pl := ix l) (L := Ex code) (p := parent code l) 1 nr nr
 ne : NeR (code.length + 1) ne nr
structure KI (code : List (Int × Int)) (l : List Nat) (nr nr' : Nat → Option Nat) (ne' : List Int) (k : Nat) (ch : Bool) : Prop where
 kl : k + 1 ≤ l.length
 rd : Rd (x := code.length) (nx := nxN code) (pl := ix l) (L := Ex code) (p := parent code l) (k + 1) nr nr'
 ne : NeR (code.length + 1) ne' nr'
 t : ch = true → tot (code.length + 1) l nr' < tot (code.length + 1) l nr
 f : ch = false → nr' = nr ∧ ∀ a, Ex code a → a ≠ code.length → ix l a < k + 1 → ∃ b, nr a = some b ∧ Best (x := code.length) (nx := nxN code) nr a b
theorem ofN_lt {o : Option Nat} : decide (ofN o < 0) = o.isNone := by
 cases o with
 | none => rfl
 | some b =>
   have : ¬ ((b : Nat) : Int) < 0 := by omega
   simp [ofN, this]
theorem ofN_inj {a b : Option Nat} (h : ofN a = ofN b) : a = b := by
 cases a <;> cases b <;> simp [ofN] at h ⊢ <;> omega
theorem ne_set {n a m : Nat} {ne : List Int} {nr : Nat → Option Nat} (h : NeR n ne nr) (ha : a < n) : NeR n (ne.set a (m : Nat)) (upd nr a m) := by
 refine ⟨by rw [List.length_set]; exact h.len, fun c hc => ?_⟩
 by_cases e : c = a
 ·subst e
  rw [upd_same, List.getD_eq_getElem?_getD, List.getElem?_set_self (by rw [h.len]; exact hc)]
  rfl
 ·rw [upd_ne nr m e, ← h.at' c hc]
  simp only [List.getD_eq_getElem?_getD]
  rw [List.getElem?_set_ne (Ne.symm e)]
theorem upd_id {nr : Nat → Option Nat} {a m : Nat} (h : nr a = some m) : upd nr a m = nr := by
 funext c
 by_cases e : c = a
 ·subst e; rw [upd_same, h]
 ·rw [upd_ne nr m e]
section
variable {f : Fn} {l : List Nat} {pls ne ne' : List Int} {nr nr' : Nat → Option Nat} {k : Nat} {ch : Bool}
theorem ki_best (ho : OrdL (f.code.length + 1) f.code.length (bkN f.code) l) (h : KI f.code l nr nr' ne' k ch) {a : Nat} (ha : l[k + 1]? = some a) {best : Option Nat} (hb : BJ f.code.length nr' (nxN f.code a) best) :
  Ex f.code a ∧ a ≠ f.code.length ∧ ix l a = k + 1 ∧ ∃ m, best = some m ∧ Best (x := f.code.length) (nx := nxN f.code) nr' a m := by
 have od := ord_of ho
 have hex : Ex f.code a := wb_wy.1 ((ho.mem a).1 (List.mem_of_getElem? ha))
 have hix := ix_of ho.nd ha
 have hne : a ≠ f.code.length := fun e => by
  rw [e, od.px] at hix
  omega
 refine ⟨hex, hne, hix, ?_⟩
 obtain ⟨q1, q2, q3⟩ := od.par a hex hne
 have hd := h.rd.done _ q3 (by omega)
 cases best with
 | none => rw [hb _ q1] at hd; cases hd
 | some m => exact ⟨m, rfl, hb.2.1, hb.2.2⟩
theorem ki_same (ho : OrdL (f.code.length + 1) f.code.length (bkN f.code) l) (h : KI f.code l nr nr' ne' k ch) {a m : Nat} (ha : l[k + 1]? = some a) (hb : BJ f.code.length nr' (nxN f.code a) (some m)) (hm : nr' a = some m) : KI f.code l nr nr' ne' (k + 1) ch := by
 obtain ⟨h1, h2, h3, m', e, h4⟩ := ki_best ho h ha hb
 cases e
 have od := ord_of ho
 have h5 := rd_step od h.rd h1 h2 h3 h4
 rw [upd_id hm] at h5
 refine ⟨by have := (List.getElem?_eq_some_iff.1 ha).1; omega, h5, h.ne, h.t, fun hc => ?_⟩
 obtain ⟨e1, e2⟩ := h.f hc
 refine ⟨e1, fun b hb1 hb2 hb3 => ?_⟩
 by_cases hlt : ix l b < k + 1
 ·exact e2 b hb1 hb2 hlt
 ·have : b = a := od.inj b a hb1 h1 (by omega)
  subst this
  rw [← e1]
  exact ⟨m, hm, h4⟩
theorem ki_upd (ho : OrdL (f.code.length + 1) f.code.length (bkN f.code) l) (h : KI f.code l nr nr' ne' k ch) {a m : Nat} (ha : l[k + 1]? = some a) (hb : BJ f.code.length nr' (nxN f.code a) (some m)) (hm : nr' a ≠ some m) : KI f.code l nr (upd nr' a m) (ne'.set a (m : Nat)) (k + 1) true := by
 obtain ⟨h1, h2, h3, m', e, h4⟩ := ki_best ho h ha hb
 cases e
 have od := ord_of ho
 have st := step_st od h.rd h1 h2 h3 h4
 have hml : ix l m < l.length := (place_lt ho (h.rd.ok.inl _ _ (Option.isSome_iff_exists.1 st.src).choose_spec).1).1
 have hln := nodup_lt ho.nd ho.lt
 have hlt : tot (f.code.length + 1) l (upd nr' a m) < tot (f.code.length + 1) l nr' := by
  refine tot_upd (ex_lt h1) ?_
  revert hm
  cases hn : nr' a with
  | none => exact fun _ => by dsimp only; omega
  | some b =>
    intro hm
    have := st.up b hn
    exact this.lt_of_ne h.rd.ok fun e => hm (by rw [e])
 refine ⟨by have := (List.getElem?_eq_some_iff.1 ha).1; omega, rd_step od h.rd h1 h2 h3 h4, ne_set h.ne (ex_lt h1), fun _ => ?_, fun hc => nomatch hc⟩
 cases hch : ch with
 | true => have := h.t hch; omega
 | false => obtain ⟨e1, _⟩ := h.f hch; rw [e1] at hlt ⊢; exact hlt
end
end Go.Proofs.Ytggaimcopbjdiaa.Graph
