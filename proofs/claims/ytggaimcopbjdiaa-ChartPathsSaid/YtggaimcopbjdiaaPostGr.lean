import Derived.Test.YtggaimcopbjdiaaPostMeet
import Derived.Test.YtggaimcopbjdiaaGraphP
set_option linter.unusedVariables false
set_option linter.unusedSimpArgs false
set_option maxRecDepth 10000
namespace Go.Proofs.Ytggaimcopbjdiaa.Graph
open Go.Proofs.Ytggaimcopbjdiaa.AM Go.Proofs.Ytggaimcopbjdiaa.Post
def nxN (code : List (Int × Int)) (a : Nat) : List Nat := (nextI code (a : Nat)).map Int.toNat
def bkN (code : List (Int × Int)) (b : Nat) : List Nat := (aheadI code (b : Nat)).map Int.toNat
theorem natI_toNat {l : List Int} (h : ∀ c, c ∈ l → 0 ≤ c) : natI (l.map Int.toNat) = l := by
 induction l with
 | nil => rfl
 | cons c l ih =>
   have := h c (by simp)
   simp only [natI, List.map_cons] at ih ⊢
   rw [ih fun d hd => h d (by simp [hd])]
   congr 1
   omega
theorem next_nat (code : List (Int × Int)) (a : Nat) : natI (nxN code a) = nextI code (a : Nat) := natI_toNat fun c hc => by
 obtain ⟨k, rfl, _⟩ := next_lt hc; omega
theorem ahead_nat (code : List (Int × Int)) (b : Nat) : natI (bkN code b) = aheadI code (b : Nat) := natI_toNat fun c hc => by
 obtain ⟨k, rfl, _⟩ := aheadN_mem hc; omega
theorem mem_natI {l : List Nat} {c : Nat} : ((c : Nat) : Int) ∈ natI l ↔ c ∈ l := by
 simp only [natI, List.mem_map]
 constructor
 ·rintro ⟨a, h, e⟩
  have : a = c := by omega
  exact this ▸ h
 ·exact fun h => ⟨c, h, rfl⟩
theorem nx_lt {code : List (Int × Int)} {a c : Nat} (h : c ∈ nxN code a) : a < code.length ∧ c < code.length + 1 := by
 have h1 := mem_natI.2 h
 rw [next_nat] at h1
 obtain ⟨k, e, hk⟩ := next_lt h1
 refine ⟨?_, by omega⟩
 unfold nextI at h1
 split at h1
 ·omega
 ·simp at h1
theorem bk_iff {code : List (Int × Int)} {a b : Nat} : a ∈ bkN code b ↔ b ∈ nxN code a := by
 rw [← mem_natI, ahead_nat, ← mem_natI, next_nat]
 unfold aheadI aheadN
 simp only [List.mem_map, List.mem_filter, List.mem_range, decide_eq_true_eq]
 constructor
 ·rintro ⟨k, ⟨h1, h2⟩, e⟩
  have : k = a := by omega
  exact this ▸ h2
 ·intro h
  refine ⟨a, ⟨?_, h⟩, rfl⟩
  have : b ∈ nxN code a := by rw [← mem_natI, next_nat]; exact h
  exact (nx_lt this).1
theorem bk_lt {code : List (Int × Int)} {a b : Nat} (h : a ∈ bkN code b) : a < code.length := (nx_lt (bk_iff.1 h)).1
def ix : List Nat → Nat → Nat
 | [], _ => 0
 | b :: l, a => if a = b then 0 else ix l a + 1
theorem ix_at : ∀ {l : List Nat} {a : Nat}, a ∈ l → ix l a < l.length ∧ l[ix l a]? = some a
 | [], a, h => by simp at h
 | b :: l, a, h => by
   unfold ix
   by_cases e : a = b
   ·rw [if_pos e]; exact ⟨by simp, by simp [e]⟩
   ·rw [if_neg e]
    obtain ⟨h1, h2⟩ := ix_at (l := l) (a := a) (by simpa [e] using h)
    exact ⟨by simp; omega, by simpa using h2⟩
theorem ix_of : ∀ {l : List Nat} {i a : Nat}, l.Nodup → l[i]? = some a → ix l a = i
 | [], i, a, _, h => by simp at h
 | b :: l, 0, a, _, h => by
   have : b = a := by simpa using h
   simp [ix, this]
 | b :: l, i + 1, a, hn, h => by
   have h' : l[i]? = some a := by simpa using h
   obtain ⟨h1, h2⟩ := List.nodup_cons.1 hn
   have : a ≠ b := fun e => h1 (e ▸ List.mem_of_getElem? h')
   unfold ix
   rw [if_neg this, ix_of h2 h']
theorem ix_app {l1 : List Nat} {b : Nat} (h : b ∈ l1) : ∀ (l2 : List Nat), ix (l1 ++ l2) b < l1.length := by
 intro l2
 induction l1 with
 | nil => simp at h
 | cons c l ih =>
   rw [List.cons_append]
   unfold ix
   by_cases e : b = c
   ·rw [if_pos e]; simp
   ·rw [if_neg e]
    have := ih (by simpa [e] using h)
    simp; omega
section
variable {code : List (Int × Int)} {l : List Nat}
def Ex (code : List (Int × Int)) (a : Nat) : Prop := Wy (nxN code) a code.length
theorem wb_wy {a : Nat} : Wb code.length (bkN code) a ↔ Ex code a := by
 constructor
 ·intro h
  induction h with
  | root => exact .refl _
  | step _ hm ih => exact .step (bk_iff.1 hm) ih
 ·intro h
  have key : ∀ {a b : Nat}, Wy (nxN code) a b → b = code.length → Wb code.length (bkN code) a := by
   intro a b h
   induction h with
   | refl a => intro e; rw [e]; exact .root
   | step hc _ ih => intro e; exact .step (ih e) (bk_iff.2 hc)
  exact key h rfl
theorem ex_lt {a : Nat} (h : Ex code a) : a < code.length + 1 := by
 cases h with
 | refl => omega
 | step hc _ => have := (nx_lt hc).1; omega
noncomputable def parent (code : List (Int × Int)) (l : List Nat) (a : Nat) : Nat := @dite _ (∃ b, b ∈ nxN code a ∧ ix l b < ix l a ∧ Ex code b) (Classical.propDecidable _) (fun h => Classical.choose h) fun _ => 0
theorem ord_of (h : OrdL (code.length + 1) code.length (bkN code) l) : Ord code.length (nxN code) (ix l) (Ex code) (parent code l) := by
 obtain ⟨t, ht⟩ := h.hd
 refine ⟨.refl _, by rw [ht]; simp [ix], fun a b ha hb e => ?_, fun a ha hne => ?_, fun a => Iff.rfl⟩
 ·have h1 := (ix_at ((h.mem a).2 (wb_wy.2 ha))).2
  have h2 := (ix_at ((h.mem b).2 (wb_wy.2 hb))).2
  rw [e, h2] at h1
  exact (Option.some.inj h1).symm
 ·have ham := (h.mem a).2 (wb_wy.2 ha)
  obtain ⟨l1, l2, e⟩ := List.append_of_mem ham
  obtain ⟨b, q1, q2⟩ := h.par l1 a l2 e hne
  have hia : ix l a = l1.length := ix_of h.nd (by rw [e]; simp)
  have hib : ix l b < l1.length := by rw [e]; exact ix_app q2 _
  have hb : Ex code b := wb_wy.1 ((h.mem b).1 (by rw [e]; simp [q2]))
  have hex : ∃ b, b ∈ nxN code a ∧ ix l b < ix l a ∧ Ex code b := ⟨b, bk_iff.1 q1, by omega, hb⟩
  unfold parent
  rw [@dif_pos _ (Classical.propDecidable _) hex]
  exact Classical.choose_spec hex
theorem place_lt (h : OrdL (code.length + 1) code.length (bkN code) l) {a : Nat} (ha : Ex code a) : ix l a < l.length ∧ l[ix l a]? = some a := ix_at ((h.mem a).2 (wb_wy.2 ha))
end
theorem cloneCF_ok (code : List (Int × Int)) (hn : code.length < 1000000) : PFun E 57 [encC code] (valQ (isV (encC code))) := by
 refine p_fun ?_
 show PTri E false [] _ [.frz 2 code.length code.length (rowC code), .junk, .junk] _ _
 refine s_run ?_
 refine s_ass (s_reg ?_)
 refine prg_isnil rfl rfl fun t ht => ?_
 refine g_end ?_
 refine s_cond (fun h => ?_) (fun h => ?_)
 ·have h0 : code.length = 0 := by cases t <;> simp_all
  refine s_ass (s_run ?_)
  refine s_ret ?_
  refine fin_z [] rfl ?_
  rintro v rfl
  unfold encC
  rw [h0]
  exact .one .nilf
 ·refine s_skip (s_run ?_ (hq := by simp only [room, true_and, and_true]; omega))
  refine p_ret ?_
  refine fin_z [1] rfl ?_
  rintro v rfl
  exact .one (.vecf (.head _) rfl (Nat.zero_add _) (Nat.le_refl _) (Nat.le_of_eq (Nat.zero_add _).symm) fun i hi => rfl)
theorem edgesE_ok {f : Fn} (hf : Fit f.code) : PFun E 40 [encF f] (valQ (isV (seqF f.code))) := by
 refine p_fun ?_
 show PTri E false [] _ [encF f, .junk, .junk] _ _
 refine s_run ?_
 refine s_reg (g_run 2 ?_)
 refine g_call (cloneCF_ok f.code hf.len) ?_
 rintro v rfl
 refine ⟨rfl, ?_⟩
 refine g_call (edges_ok f.code) ?_
 rintro v rfl
 refine ⟨rfl, ?_⟩
 refine g_end ?_
 exact p_ret fin_v
end Go.Proofs.Ytggaimcopbjdiaa.Graph
